/- Printed by geng.py: functions of the program as Lean functions, with the proofs that the code comes to them. -/
import Derived.Test.YtbhgeilmhknnaaaGreatDoorAmDec
namespace Go.Am
open Go.Proofs
set_option maxRecDepth 100000
/- ref01.put -/
def ref01_put_L1 (n : Nat) (n_ : Int) (size : Int) (v3 : Int) (v4 : Str) (v5 : Int) : Option Str :=
  match n with
  | 0 => none
  | n + 1 => (bif (decide (v5 < size)) then (Chk (catOK ([by8 (wU8 (v3.tmod (256 : Int)))] : Str) v4) (ref01_put_L1 n n_ size (wU64 (v3.tdiv (256 : Int))) (([by8 (wU8 (v3.tmod (256 : Int)))] : Str) ++ v4) (wI64 (v5 + (1 : Int))))) else (some v4))
def ref01_put (n : Nat) (n_ : Int) (size : Int) : Option Str :=
  (ref01_put_L1 n n_ size n_ ([] : Str) (0 : Int))
theorem t_ref01_put {n : Nat} {n_ : Int} {size : Int} {r : Str} (hg : ref01_put n n_ size = some r) : VF Pg 192 [(.d (eU64 n_)), (.d (eI64 size))] (single [(.d (eS r))]) := by
  refine fn_ok (fn := Tryz.f192) (by kernel_rfl) rfl (by kernel_rfl) (Nat.le_of_ble_eq_true (by kernel_rfl)) fun B hB => ?_
  refine aw_seq ?_
  refine rg (Z := Zt) 0 0 [] [] [(0, (.d (eU64 n_))), (1, (.d (eI64 size)))] [] [] hmx (by kernel_rfl) good_nil ?_
  refine aw_seq ?_
  refine rg (Z := Zt) 0 0 [] [] [(0, (.d (eU64 n_))), (1, (.d (eI64 size))), (5, (.d (eS ([] : Str))))] [] [] hmx (by kernel_rfl) good_nil ?_
  refine aw_seq ?_
  refine aw_seq ?_
  refine rg (Z := Zt) 0 0 [] [] [(0, (.d (eU64 n_))), (1, (.d (eI64 size))), (5, (.d (eS ([] : Str)))), (6, (.d (eI64 (0 : Int))))] [] [] hmx (by kernel_rfl) good_nil ?_
  refine aw_block ?_
  refine aw_loop (fun μ σ => ∃ (v3 : Int) (v4 : Str) (v5 : Int), μ ≤ n ∧ ref01_put_L1 μ n_ size v3 v4 v5 = some r ∧ Wk B σ (st Tryz.f192.ntmps [(0, (.d (eU64 v3))), (1, (.d (eI64 size))), (5, (.d (eS v4))), (6, (.d (eI64 v5)))] [] [])) n ⟨n_, ([] : Str), (0 : Int), Nat.le_refl _, hg, (Wk.refl _)⟩ ?_
  rintro μ σ ⟨v3, v4, v5, hle, hg, hwk⟩
  refine aw_wk hwk ?_
  clear hwk
  cases μ with
  | zero => exact absurd (show none = some r from hg) (by simp)
  | succ n =>
    refine aw_seq ?_
    refine aw_seq ?_
    refine rg (Z := Zt) 0 0 [] [] [(0, (.d (eU64 v3))), (1, (.d (eI64 size))), (5, (.d (eS v4))), (6, (.d (eI64 v5))), (9, (.d (eB (decide (v5 < size)))))] [] [] hmx (by kernel_rfl) good_nil ?_
    rcases Bool.eq_false_or_eq_true (decide (v5 < size)) with h8 | h8
    · have hg := ite_t hg h8
      refine cd_t h8 (by kernel_rfl) ?_
      refine aw_skip ?_
      refine aw_seq ?_
      refine aw_block ?_
      refine aw_seq ?_
      obtain ⟨h9, hg⟩ := chk_o hg
      refine rg (Z := Zt) 0 0 [(6, .op (.val (.d (eS (([by8 (wU8 (v3.tmod (256 : Int)))] : Str) ++ v4)))))] [.op (xBin Pg .add 9 (.d (eS ([by8 (wU8 (v3.tmod (256 : Int)))] : Str))) (.d (eS v4)))] [(0, (.d (eU64 v3))), (1, (.d (eI64 size))), (5, (.d (eS (([by8 (wU8 (v3.tmod (256 : Int)))] : Str) ++ v4)))), (6, (.d (eI64 v5)))] [] [] hmx (by kernel_rfl) (good_op (cat_str h9) good_nil) ?_
      refine rg (Z := Zt) 0 0 [] [] [(0, (.d (eU64 (wU64 (v3.tdiv (256 : Int)))))), (1, (.d (eI64 size))), (5, (.d (eS (([by8 (wU8 (v3.tmod (256 : Int)))] : Str) ++ v4)))), (6, (.d (eI64 v5)))] [] [] hmx (by kernel_rfl) good_nil ?_
      refine rg (Z := Zt) 0 0 [] [] [(0, (.d (eU64 (wU64 (v3.tdiv (256 : Int)))))), (1, (.d (eI64 size))), (5, (.d (eS (([by8 (wU8 (v3.tmod (256 : Int)))] : Str) ++ v4)))), (6, (.d (eI64 (wI64 (v5 + (1 : Int))))))] [] [] hmx (by kernel_rfl) good_nil ?_
      exact ⟨n, by omega, (wU64 (v3.tdiv (256 : Int))), (([by8 (wU8 (v3.tmod (256 : Int)))] : Str) ++ v4), (wI64 (v5 + (1 : Int))), by omega, hg, (Wk.refl _)⟩
    · have hg := ite_f hg h8
      refine cd_f h8 (by kernel_rfl) ?_
      refine aw_exit ?_
      refine aw_seq ?_
      refine rg (Z := Zt) 0 0 [] [] [(4, (.d (eS v4)))] [] [] hmx (by kernel_rfl) good_nil ?_
      refine aw_ret ?_
      have hg := some_o hg
      subst hg
      exact lv_r [true] [] (by kernel_rfl)

/- ref01.Put32 -/
def ref01_Put32 (n : Nat) (n_ : Int) : Option Str :=
  (Bnd (ref01_put n (wU64 n_) (4 : Int)) fun x1 => (some x1))
theorem t_ref01_Put32 {n : Nat} {n_ : Int} {r : Str} (hg : ref01_Put32 n n_ = some r) : VF Pg 127 [(.d (eU32 n_))] (single [(.d (eS r))]) := by
  refine fn_ok (fn := Tryz.f127) (by kernel_rfl) rfl (by kernel_rfl) (Nat.le_of_ble_eq_true (by kernel_rfl)) fun B hB => ?_
  refine aw_seq ?_
  refine rg (Z := Zt) 0 0 [] [] [(0, (.d (eU32 n_)))] [] [] hmx (by kernel_rfl) good_nil ?_
  refine aw_seq ?_
  obtain ⟨x1, h2, hg⟩ := bnd_o hg
  refine rg (Z := Zt) 0 0 [(2, .vf (.d (eS x1)))] [.vf 192 [(.d (eU64 (wU64 n_))), (.d (eI64 (4 : Int)))]] [(2, (.d (eS x1)))] [] [] hmx (by kernel_rfl) (good_vf (t_ref01_put h2) rfl rfl good_nil) ?_
  refine aw_ret ?_
  have hg := some_o hg
  subst hg
  exact lv_r [true] [] (by kernel_rfl)

/- ref02.Sum -/
def ref02_Sum_L1 (n : Nat) (s : Str) (v3 : Int) (v4 : Int) : Option Int :=
  match n with
  | 0 => none
  | n + 1 => (bif (decide (v4 < (s.length : Int))) then (Chk (inR v4 s.length) (ref02_Sum_L1 n s ((wU64 ((xorU64 v3 (wU64 (bt s v4))) * (16777619 : Int))).tmod (4294967296 : Int)) (wI64 (v4 + (1 : Int))))) else (some (wU32 v3)))
def ref02_Sum (n : Nat) (s : Str) : Option Int :=
  (ref02_Sum_L1 n s (2166136261 : Int) (0 : Int))
theorem t_ref02_Sum {n : Nat} {s : Str} {r : Int} (hg : ref02_Sum n s = some r) : VF Pg 191 [(.d (eS s))] (single [(.d (eU32 r))]) := by
  refine fn_ok (fn := Tryz.f191) (by kernel_rfl) rfl (by kernel_rfl) (Nat.le_of_ble_eq_true (by kernel_rfl)) fun B hB => ?_
  refine aw_seq ?_
  refine rg (Z := Zt) 0 0 [] [] [(0, (.d (eS s)))] [] [] hmx (by kernel_rfl) good_nil ?_
  refine aw_seq ?_
  refine rg (Z := Zt) 0 0 [] [] [(0, (.d (eS s))), (3, (.d (eU64 (2166136261 : Int))))] [] [] hmx (by kernel_rfl) good_nil ?_
  refine aw_seq ?_
  refine aw_seq ?_
  refine rg (Z := Zt) 0 0 [] [] [(0, (.d (eS s))), (3, (.d (eU64 (2166136261 : Int)))), (4, (.d (eI64 (0 : Int))))] [] [] hmx (by kernel_rfl) good_nil ?_
  refine aw_block ?_
  refine aw_loop (fun μ σ => ∃ (v3 : Int) (v4 : Int), μ ≤ n ∧ ref02_Sum_L1 μ s v3 v4 = some r ∧ Wk B σ (st Tryz.f191.ntmps [(0, (.d (eS s))), (3, (.d (eU64 v3))), (4, (.d (eI64 v4)))] [] [])) n ⟨(2166136261 : Int), (0 : Int), Nat.le_refl _, hg, (Wk.refl _)⟩ ?_
  rintro μ σ ⟨v3, v4, hle, hg, hwk⟩
  refine aw_wk hwk ?_
  clear hwk
  cases μ with
  | zero => exact absurd (show none = some r from hg) (by simp)
  | succ n =>
    refine aw_seq ?_
    refine aw_seq ?_
    refine rg (Z := Zt) 0 0 [] [] [(0, (.d (eS s))), (3, (.d (eU64 v3))), (4, (.d (eI64 v4))), (8, (.d (eB (decide (v4 < (s.length : Int))))))] [] [] hmx (by kernel_rfl) good_nil ?_
    rcases Bool.eq_false_or_eq_true (decide (v4 < (s.length : Int))) with h7 | h7
    · have hg := ite_t hg h7
      refine cd_t h7 (by kernel_rfl) ?_
      refine aw_skip ?_
      refine aw_seq ?_
      refine aw_block ?_
      obtain ⟨h8, hg⟩ := chk_o hg
      refine rg (Z := Zt) 0 0 [(3, .op (.val (.d (eU8 (bt s v4)))))] [.op (xIdx Pg 9 (.d (eS s)) (.d (eI64 v4)))] [(0, (.d (eS s))), (3, (.d (eU64 ((wU64 ((xorU64 v3 (wU64 (bt s v4))) * (16777619 : Int))).tmod (4294967296 : Int))))), (4, (.d (eI64 v4)))] [] [] hmx (by kernel_rfl) (good_op (idx_str (by kernel_rfl) h8) good_nil) ?_
      refine rg (Z := Zt) 0 0 [] [] [(0, (.d (eS s))), (3, (.d (eU64 ((wU64 ((xorU64 v3 (wU64 (bt s v4))) * (16777619 : Int))).tmod (4294967296 : Int))))), (4, (.d (eI64 (wI64 (v4 + (1 : Int))))))] [] [] hmx (by kernel_rfl) good_nil ?_
      exact ⟨n, by omega, ((wU64 ((xorU64 v3 (wU64 (bt s v4))) * (16777619 : Int))).tmod (4294967296 : Int)), (wI64 (v4 + (1 : Int))), by omega, hg, (Wk.refl _)⟩
    · have hg := ite_f hg h7
      refine cd_f h7 (by kernel_rfl) ?_
      refine aw_exit ?_
      refine aw_seq ?_
      refine rg (Z := Zt) 0 0 [] [] [(2, (.d (eU32 (wU32 v3))))] [] [] hmx (by kernel_rfl) good_nil ?_
      refine aw_ret ?_
      have hg := some_o hg
      subst hg
      exact lv_r [true] [] (by kernel_rfl)

/- ref02.Seal -/
def ref02_Seal (n : Nat) (s : Str) : Option Str :=
  (Bnd (ref02_Sum n s) fun x1 => (Bnd (ref01_Put32 n x1) fun x3 => (Chk (catOK s x3) (some (s ++ x3)))))
theorem t_ref02_Seal {n : Nat} {s : Str} {r : Str} (hg : ref02_Seal n s = some r) : VF Pg 126 [(.d (eS s))] (single [(.d (eS r))]) := by
  refine fn_ok (fn := Tryz.f126) (by kernel_rfl) rfl (by kernel_rfl) (Nat.le_of_ble_eq_true (by kernel_rfl)) fun B hB => ?_
  refine aw_seq ?_
  refine rg (Z := Zt) 0 0 [] [] [(0, (.d (eS s)))] [] [] hmx (by kernel_rfl) good_nil ?_
  refine aw_seq ?_
  obtain ⟨x1, h2, hg⟩ := bnd_o hg
  obtain ⟨x3, h4, hg⟩ := bnd_o hg
  obtain ⟨h5, hg⟩ := chk_o hg
  refine rg (Z := Zt) 0 0 [(2, .vf (.d (eU32 x1))), (3, .vf (.d (eS x3))), (4, .op (.val (.d (eS (s ++ x3)))))] [.vf 191 [(.d (eS s))], .vf 127 [(.d (eU32 x1))], .op (xBin Pg .add 9 (.d (eS s)) (.d (eS x3)))] [(2, (.d (eS (s ++ x3))))] [] [] hmx (by kernel_rfl) (good_vf (t_ref02_Sum h2) rfl rfl (good_vf (t_ref01_Put32 h4) rfl rfl (good_op (cat_str h5) good_nil))) ?_
  refine aw_ret ?_
  have hg := some_o hg
  subst hg
  exact lv_r [true] [] (by kernel_rfl)

/- ref06.Right -/
def ref06_Right (s : Super) : Bool :=
  (bif (decide (s.blocks ≥ (1 : Int))) then (bif (decide (s.blocks ≤ (32 : Int))) then (s.vector.current != (0 : Int)) else false) else false)
theorem t_ref06_Right {s : Super} {r : Bool} (hg : ref06_Right s = r) : VF Pg 189 [(.d (eSuper s))] (single [(.d (eB r))]) := by
  refine fn_ok (fn := Tryz.f189) (by kernel_rfl) rfl (by kernel_rfl) (Nat.le_of_ble_eq_true (by kernel_rfl)) fun B hB => ?_
  refine aw_seq ?_
  refine rg (Z := Zt) 1 0 [] [] [(1, (.ptr 0 0))] [(.var (.d (eSuper s)))] [] hmx (by kernel_rfl) good_nil ?_
  refine aw_seq ?_
  rcases Bool.eq_false_or_eq_true (decide (s.blocks ≥ (1 : Int))) with h1 | h1
  · have hg := ite_t hg h1
    rcases Bool.eq_false_or_eq_true (decide (s.blocks ≤ (32 : Int))) with h2 | h2
    · have hg := ite_t hg h2
      refine rg (Z := Zt) 0 0 [(3, .op (.val (.d (eB true)))), (8, .op (.val (.d (eB true))))] [.op (some (.val (.d (eB (decide (s.blocks ≥ (1 : Int))))))), .op (some (.val (.d (eB (decide (s.blocks ≤ (32 : Int)))))))] [(2, (.d (eB (s.vector.current != (0 : Int)))))] [(.var (.d (eSuper s)))] [] hmx (by kernel_rfl) (good_op (bo h1) (good_op (bo h2) good_nil)) ?_
      refine aw_ret ?_
      subst hg
      exact lv_r [true] [] (by kernel_rfl)
    · have hg := ite_f hg h2
      refine rg (Z := Zt) 0 0 [(3, .op (.val (.d (eB true)))), (8, .op (.val (.d (eB false))))] [.op (some (.val (.d (eB (decide (s.blocks ≥ (1 : Int))))))), .op (some (.val (.d (eB (decide (s.blocks ≤ (32 : Int)))))))] [(2, (.d (eB false)))] [(.var (.d (eSuper s)))] [] hmx (by kernel_rfl) (good_op (bo h1) (good_op (bo h2) good_nil)) ?_
      refine aw_ret ?_
      subst hg
      exact lv_r [true] [] (by kernel_rfl)
  · have hg := ite_f hg h1
    refine rg (Z := Zt) 0 0 [(3, .op (.val (.d (eB false))))] [.op (some (.val (.d (eB (decide (s.blocks ≥ (1 : Int)))))))] [(2, (.d (eB false)))] [(.var (.d (eSuper s)))] [] hmx (by kernel_rfl) (good_op (bo h1) good_nil) ?_
    refine aw_ret ?_
    subst hg
    exact lv_r [true] [] (by kernel_rfl)

/- ref01.Put64 -/
def ref01_Put64 (n : Nat) (n_ : Int) : Option Str :=
  (Bnd (ref01_put n n_ (8 : Int)) fun x1 => (some x1))
theorem t_ref01_Put64 {n : Nat} {n_ : Int} {r : Str} (hg : ref01_Put64 n n_ = some r) : VF Pg 228 [(.d (eU64 n_))] (single [(.d (eS r))]) := by
  refine fn_ok (fn := Tryz.f228) (by kernel_rfl) rfl (by kernel_rfl) (Nat.le_of_ble_eq_true (by kernel_rfl)) fun B hB => ?_
  refine aw_seq ?_
  refine rg (Z := Zt) 0 0 [] [] [(0, (.d (eU64 n_)))] [] [] hmx (by kernel_rfl) good_nil ?_
  refine aw_seq ?_
  obtain ⟨x1, h2, hg⟩ := bnd_o hg
  refine rg (Z := Zt) 0 0 [(1, .vf (.d (eS x1)))] [.vf 192 [(.d (eU64 n_)), (.d (eI64 (8 : Int)))]] [(2, (.d (eS x1)))] [] [] hmx (by kernel_rfl) (good_vf (t_ref01_put h2) rfl rfl good_nil) ?_
  refine aw_ret ?_
  have hg := some_o hg
  subst hg
  exact lv_r [true] [] (by kernel_rfl)

/- ref01.Flags -/
def ref01_Flags_L1 (n : Nat) (l : (List Bool)) (v4 : Int) (v5 : Int) (v6 : Int) : Option Int :=
  match n with
  | 0 => none
  | n + 1 => (bif (decide (v6 < (l.length : Int))) then (bif (decide (v6 < (8 : Int))) then (Chk (inR v6 l.length) (bif (gt l v6) then (ref01_Flags_L1 n l (wU8 (v4 + v5)) (wU8 (v5 * (2 : Int))) (wI64 (v6 + (1 : Int)))) else (ref01_Flags_L1 n l v4 (wU8 (v5 * (2 : Int))) (wI64 (v6 + (1 : Int)))))) else (some v4)) else (some v4))
def ref01_Flags (n : Nat) (l : (List Bool)) : Option Int :=
  (ref01_Flags_L1 n l (0 : Int) (1 : Int) (0 : Int))
theorem t_ref01_Flags {n : Nat} {l : (List Bool)} {r : Int} (hg : ref01_Flags n l = some r) : VF Pg 261 [(.d ((eL eB) l))] (single [(.d (eU8 r))]) := by
  refine fn_ok (fn := Tryz.f261) (by kernel_rfl) rfl (by kernel_rfl) (Nat.le_of_ble_eq_true (by kernel_rfl)) fun B hB => ?_
  refine aw_seq ?_
  refine rg (Z := Zt) 0 0 [] [] [(0, (.d ((eL eB) l)))] [] [] hmx (by kernel_rfl) good_nil ?_
  refine aw_seq ?_
  refine rg (Z := Zt) 0 0 [] [] [(0, (.d ((eL eB) l))), (3, (.d (eU8 (0 : Int)))), (4, (.d (eU8 (1 : Int))))] [] [] hmx (by kernel_rfl) good_nil ?_
  refine aw_seq ?_
  refine aw_seq ?_
  refine rg (Z := Zt) 0 0 [] [] [(0, (.d ((eL eB) l))), (3, (.d (eU8 (0 : Int)))), (4, (.d (eU8 (1 : Int)))), (5, (.d (eI64 (0 : Int))))] [] [] hmx (by kernel_rfl) good_nil ?_
  refine aw_block ?_
  refine aw_loop (fun μ σ => ∃ (v4 : Int) (v5 : Int) (v6 : Int), μ ≤ n ∧ ref01_Flags_L1 μ l v4 v5 v6 = some r ∧ Wk B σ (st Tryz.f261.ntmps [(0, (.d ((eL eB) l))), (3, (.d (eU8 v4))), (4, (.d (eU8 v5))), (5, (.d (eI64 v6)))] [] [])) n ⟨(0 : Int), (1 : Int), (0 : Int), Nat.le_refl _, hg, (Wk.refl _)⟩ ?_
  rintro μ σ ⟨v4, v5, v6, hle, hg, hwk⟩
  refine aw_wk hwk ?_
  clear hwk
  cases μ with
  | zero => exact absurd (show none = some r from hg) (by simp)
  | succ n =>
    refine aw_seq ?_
    refine aw_seq ?_
    rcases Bool.eq_false_or_eq_true (decide (v6 < (l.length : Int))) with h11 | h11
    · have hg := ite_t hg h11
      refine rg (Z := Zt) 0 0 [(2, .op (.val (.d (eI64 (l.length : Int))))), (4, .op (.val (.d (eB true))))] [.op (xLen Pg 124 (.d ((eL eB) l))), .op (some (.val (.d (eB (decide (v6 < (l.length : Int)))))))] [(0, (.d ((eL eB) l))), (3, (.d (eU8 v4))), (4, (.d (eU8 v5))), (5, (.d (eI64 v6))), (13, (.d (eB (decide (v6 < (8 : Int))))))] [] [] hmx (by kernel_rfl) (good_op (len_d (e := 4) (by kernel_rfl)) (good_op (bo h11) good_nil)) ?_
      rcases Bool.eq_false_or_eq_true (decide (v6 < (8 : Int))) with h12 | h12
      · have hg := ite_t hg h12
        refine cd_t h12 (by kernel_rfl) ?_
        refine aw_skip ?_
        refine aw_seq ?_
        refine aw_block ?_
        refine aw_seq ?_
        refine aw_seq ?_
        obtain ⟨h13, hg⟩ := chk_o hg
        refine rg (Z := Zt) 0 0 [(2, .op (.val (.kp (eB (gt l v6)))))] [.op (xIdA Pg 124 (.d ((eL eB) l)) (.d (eI64 v6)))] [(0, (.d ((eL eB) l))), (3, (.d (eU8 v4))), (4, (.d (eU8 v5))), (5, (.d (eI64 v6))), (19, (.d (eB (gt l v6))))] [] [] hmx (by kernel_rfl) (good_op (idx_d (s := 1) (b := false) (by_ := 1) (by kernel_rfl) (fun _ => rfl) h13) good_nil) ?_
        rcases Bool.eq_false_or_eq_true (gt l v6) with h14 | h14
        · have hg := ite_t hg h14
          refine cd_t h14 (by kernel_rfl) ?_
          refine rg (Z := Zt) 0 0 [] [] [(0, (.d ((eL eB) l))), (3, (.d (eU8 (wU8 (v4 + v5))))), (4, (.d (eU8 v5))), (5, (.d (eI64 v6)))] [] [] hmx (by kernel_rfl) good_nil ?_
          refine rg (Z := Zt) 0 0 [] [] [(0, (.d ((eL eB) l))), (3, (.d (eU8 (wU8 (v4 + v5))))), (4, (.d (eU8 (wU8 (v5 * (2 : Int)))))), (5, (.d (eI64 v6)))] [] [] hmx (by kernel_rfl) good_nil ?_
          refine rg (Z := Zt) 0 0 [] [] [(0, (.d ((eL eB) l))), (3, (.d (eU8 (wU8 (v4 + v5))))), (4, (.d (eU8 (wU8 (v5 * (2 : Int)))))), (5, (.d (eI64 (wI64 (v6 + (1 : Int))))))] [] [] hmx (by kernel_rfl) good_nil ?_
          exact ⟨n, by omega, (wU8 (v4 + v5)), (wU8 (v5 * (2 : Int))), (wI64 (v6 + (1 : Int))), by omega, hg, (Wk.refl _)⟩
        · have hg := ite_f hg h14
          refine cd_f h14 (by kernel_rfl) ?_
          refine aw_skip ?_
          refine rg (Z := Zt) 0 0 [] [] [(0, (.d ((eL eB) l))), (3, (.d (eU8 v4))), (4, (.d (eU8 (wU8 (v5 * (2 : Int)))))), (5, (.d (eI64 v6)))] [] [] hmx (by kernel_rfl) good_nil ?_
          refine rg (Z := Zt) 0 0 [] [] [(0, (.d ((eL eB) l))), (3, (.d (eU8 v4))), (4, (.d (eU8 (wU8 (v5 * (2 : Int)))))), (5, (.d (eI64 (wI64 (v6 + (1 : Int))))))] [] [] hmx (by kernel_rfl) good_nil ?_
          exact ⟨n, by omega, v4, (wU8 (v5 * (2 : Int))), (wI64 (v6 + (1 : Int))), by omega, hg, (Wk.refl _)⟩
      · have hg := ite_f hg h12
        refine cd_f h12 (by kernel_rfl) ?_
        refine aw_exit ?_
        refine aw_seq ?_
        refine rg (Z := Zt) 0 0 [] [] [(2, (.d (eU8 v4)))] [] [] hmx (by kernel_rfl) good_nil ?_
        refine aw_ret ?_
        have hg := some_o hg
        subst hg
        exact lv_r [true] [] (by kernel_rfl)
    · have hg := ite_f hg h11
      refine rg (Z := Zt) 0 0 [(2, .op (.val (.d (eI64 (l.length : Int))))), (4, .op (.val (.d (eB false))))] [.op (xLen Pg 124 (.d ((eL eB) l))), .op (some (.val (.d (eB (decide (v6 < (l.length : Int)))))))] [(0, (.d ((eL eB) l))), (3, (.d (eU8 v4))), (4, (.d (eU8 v5))), (5, (.d (eI64 v6))), (13, (.d (eB false)))] [] [] hmx (by kernel_rfl) (good_op (len_d (e := 4) (by kernel_rfl)) (good_op (bo h11) good_nil)) ?_
      refine cd_f rfl (by kernel_rfl) ?_
      refine aw_exit ?_
      refine aw_seq ?_
      refine rg (Z := Zt) 0 0 [] [] [(2, (.d (eU8 v4)))] [] [] hmx (by kernel_rfl) good_nil ?_
      refine aw_ret ?_
      have hg := some_o hg
      subst hg
      exact lv_r [true] [] (by kernel_rfl)

/- ref06.bytes -/
def ref06_bytes (n : Nat) (s : Super) : Option Str :=
  (Bnd (ref01_Flags n ([s.inc, s.pri, s.dis] : (List Bool))) fun x1 => (Chk (catOK ([71, 77, 1] : Str) ([by8 (wU8 s.blocks), by8 x1] : Str)) (Bnd (ref01_Put64 n s.vector.current) fun x4 => (Chk (catOK (([71, 77, 1] : Str) ++ ([by8 (wU8 s.blocks), by8 x1] : Str)) x4) (Bnd (ref01_Put64 n s.vector.bitmap) fun x7 => (Chk (catOK ((([71, 77, 1] : Str) ++ ([by8 (wU8 s.blocks), by8 x1] : Str)) ++ x4) x7) (Bnd (ref01_Put64 n s.vector.old.a0) fun x10 => (Chk (catOK (((([71, 77, 1] : Str) ++ ([by8 (wU8 s.blocks), by8 x1] : Str)) ++ x4) ++ x7) x10) (Bnd (ref01_Put64 n s.vector.old.a1) fun x13 => (Chk (catOK ((((([71, 77, 1] : Str) ++ ([by8 (wU8 s.blocks), by8 x1] : Str)) ++ x4) ++ x7) ++ x10) x13) (some (((((([71, 77, 1] : Str) ++ ([by8 (wU8 s.blocks), by8 x1] : Str)) ++ x4) ++ x7) ++ x10) ++ x13))))))))))))
theorem t_ref06_bytes {n : Nat} {s : Super} {r : Str} (hg : ref06_bytes n s = some r) : VF Pg 190 [(.d (eSuper s))] (single [(.d (eS r))]) := by
  refine fn_ok (fn := Tryz.f190) (by kernel_rfl) rfl (by kernel_rfl) (Nat.le_of_ble_eq_true (by kernel_rfl)) fun B hB => ?_
  refine aw_seq ?_
  refine rg (Z := Zt) 1 0 [] [] [(1, (.ptr 0 0))] [(.var (.d (eSuper s)))] [] hmx (by kernel_rfl) good_nil ?_
  refine aw_seq ?_
  refine rg (Z := Zt) 1 0 [] [] [(1, (.ptr 0 0)), (3, (.ptr 1 0))] [(.var (.d (eSuper s))), (.var (.d (eVector s.vector)))] [] hmx (by kernel_rfl) good_nil ?_
  refine aw_seq ?_
  obtain ⟨x1, h2, hg⟩ := bnd_o hg
  obtain ⟨h3, hg⟩ := chk_o hg
  obtain ⟨x4, h5, hg⟩ := bnd_o hg
  obtain ⟨h6, hg⟩ := chk_o hg
  obtain ⟨x7, h8, hg⟩ := bnd_o hg
  obtain ⟨h9, hg⟩ := chk_o hg
  obtain ⟨x10, h11, hg⟩ := bnd_o hg
  obtain ⟨h12, hg⟩ := chk_o hg
  obtain ⟨x13, h14, hg⟩ := bnd_o hg
  obtain ⟨h15, hg⟩ := chk_o hg
  refine rg (Z := Zt) 0 0 [(10, .vf (.d (eU8 x1))), (13, .op (.val (.d (eS (([71, 77, 1] : Str) ++ ([by8 (wU8 s.blocks), by8 x1] : Str)))))), (16, .vf (.d (eS x4))), (17, .op (.val (.d (eS ((([71, 77, 1] : Str) ++ ([by8 (wU8 s.blocks), by8 x1] : Str)) ++ x4))))), (20, .vf (.d (eS x7))), (21, .op (.val (.d (eS (((([71, 77, 1] : Str) ++ ([by8 (wU8 s.blocks), by8 x1] : Str)) ++ x4) ++ x7))))), (25, .vf (.d (eS x10))), (26, .op (.val (.d (eS ((((([71, 77, 1] : Str) ++ ([by8 (wU8 s.blocks), by8 x1] : Str)) ++ x4) ++ x7) ++ x10))))), (30, .vf (.d (eS x13))), (31, .op (.val (.d (eS (((((([71, 77, 1] : Str) ++ ([by8 (wU8 s.blocks), by8 x1] : Str)) ++ x4) ++ x7) ++ x10) ++ x13)))))] [.vf 261 [(.d ((eL eB) ([s.inc, s.pri, s.dis] : (List Bool))))], .op (xBin Pg .add 9 (.d (eS ([71, 77, 1] : Str))) (.d (eS ([by8 (wU8 s.blocks), by8 x1] : Str)))), .vf 228 [(.d (eU64 s.vector.current))], .op (xBin Pg .add 9 (.d (eS (([71, 77, 1] : Str) ++ ([by8 (wU8 s.blocks), by8 x1] : Str)))) (.d (eS x4))), .vf 228 [(.d (eU64 s.vector.bitmap))], .op (xBin Pg .add 9 (.d (eS ((([71, 77, 1] : Str) ++ ([by8 (wU8 s.blocks), by8 x1] : Str)) ++ x4))) (.d (eS x7))), .vf 228 [(.d (eU64 s.vector.old.a0))], .op (xBin Pg .add 9 (.d (eS (((([71, 77, 1] : Str) ++ ([by8 (wU8 s.blocks), by8 x1] : Str)) ++ x4) ++ x7))) (.d (eS x10))), .vf 228 [(.d (eU64 s.vector.old.a1))], .op (xBin Pg .add 9 (.d (eS ((((([71, 77, 1] : Str) ++ ([by8 (wU8 s.blocks), by8 x1] : Str)) ++ x4) ++ x7) ++ x10))) (.d (eS x13)))] [(2, (.d (eS (((((([71, 77, 1] : Str) ++ ([by8 (wU8 s.blocks), by8 x1] : Str)) ++ x4) ++ x7) ++ x10) ++ x13))))] [(.var (.d (eSuper s))), (.var (.d (eVector s.vector)))] [] hmx (by kernel_rfl) (good_vf (t_ref01_Flags h2) rfl rfl (good_op (cat_str h3) (good_vf (t_ref01_Put64 h5) rfl rfl (good_op (cat_str h6) (good_vf (t_ref01_Put64 h8) rfl rfl (good_op (cat_str h9) (good_vf (t_ref01_Put64 h11) rfl rfl (good_op (cat_str h12) (good_vf (t_ref01_Put64 h14) rfl rfl (good_op (cat_str h15) good_nil)))))))))) ?_
  refine aw_ret ?_
  have hg := some_o hg
  subst hg
  exact lv_r [true] [] (by kernel_rfl)

/- ref06.Encode -/
def ref06_Encode (n : Nat) (s : Super) : Option (Str × Int) :=
  (Let (ref06_Right s) fun x1 => (bif (!x1) then (some (([] : Str), (1 : Int))) else (Bnd (ref06_bytes n s) fun x4 => (Bnd (ref02_Seal n x4) fun x6 => (some (x6, (0 : Int)))))))
theorem t_ref06_Encode {n : Nat} {s : Super} {r : (Str × Int)} (hg : ref06_Encode n s = some r) : VF Pg 125 [(.d (eSuper s))] (single [(.d (eS r.1)), (.d (eI64 r.2))]) := by
  refine fn_ok (fn := Tryz.f125) (by kernel_rfl) rfl (by kernel_rfl) (Nat.le_of_ble_eq_true (by kernel_rfl)) fun B hB => ?_
  refine aw_seq ?_
  refine rg (Z := Zt) 1 0 [] [] [(1, (.ptr 0 0))] [(.var (.d (eSuper s)))] [] hmx (by kernel_rfl) good_nil ?_
  refine aw_seq ?_
  refine aw_seq ?_
  obtain ⟨x1, h2, hg⟩ := let_o hg
  refine rg (Z := Zt) 0 0 [(1, .vf (.d (eB x1)))] [.vf 189 [(.d (eSuper s))]] [(1, (.ptr 0 0)), (6, (.d (eB (!x1))))] [(.var (.d (eSuper s)))] [] hmx (by kernel_rfl) (good_vf (t_ref06_Right h2) rfl rfl good_nil) ?_
  rcases Bool.eq_false_or_eq_true (!x1) with h3 | h3
  · have hg := ite_t hg h3
    refine cd_t h3 (by kernel_rfl) ?_
    refine aw_seq ?_
    refine rg (Z := Zt) 0 0 [] [] [(2, (.d (eS ([] : Str)))), (3, (.d (eI64 (1 : Int))))] [(.var (.d (eSuper s)))] [] hmx (by kernel_rfl) good_nil ?_
    refine aw_ret ?_
    have hg := some_o hg
    subst hg
    exact lv_r [true, true] [] (by kernel_rfl)
  · have hg := ite_f hg h3
    refine cd_f h3 (by kernel_rfl) ?_
    refine aw_skip ?_
    refine aw_seq ?_
    obtain ⟨x4, h5, hg⟩ := bnd_o hg
    obtain ⟨x6, h7, hg⟩ := bnd_o hg
    refine rg (Z := Zt) 0 0 [(1, .vf (.d (eS x4))), (2, .vf (.d (eS x6)))] [.vf 190 [(.d (eSuper s))], .vf 126 [(.d (eS x4))]] [(2, (.d (eS x6))), (3, (.d (eI64 (0 : Int))))] [(.var (.d (eSuper s)))] [] hmx (by kernel_rfl) (good_vf (t_ref06_bytes h5) rfl rfl (good_vf (t_ref02_Seal h7) rfl rfl good_nil)) ?_
    refine aw_ret ?_
    have hg := some_o hg
    subst hg
    exact lv_r [true, true] [] (by kernel_rfl)

/- ref09.Nought -/
def ref09_Nought  : Str :=
  ([0, 0, 0, 0, 0, 0, 0, 0] : Str)
theorem t_ref09_Nought  {r : Str} (hg : ref09_Nought = r) : VF Pg 128 [] (single [(.d (eS r))]) := by
  refine fn_ok (fn := Tryz.f128) (by kernel_rfl) rfl (by kernel_rfl) (Nat.le_of_ble_eq_true (by kernel_rfl)) fun B hB => ?_
  refine aw_seq ?_
  refine rg (Z := Zt) 0 0 [] [] [] [] [] hmx (by kernel_rfl) good_nil ?_
  refine aw_seq ?_
  refine rg (Z := Zt) 0 0 [] [] [(0, (.d (eS ([0, 0, 0, 0, 0, 0, 0, 0] : Str))))] [] [] hmx (by kernel_rfl) good_nil ?_
  refine aw_ret ?_
  subst hg
  exact lv_r [true] [] (by kernel_rfl)

/- ref09.Format -/
def ref09_Format_L1 (n : Nat) (blocks : Int) (g : Int) (x1 : (Str × Int)) (x4 : Str) (x6 : Str) (v11 : Int) (v12 : (List Str)) : Option (Disk × Int) :=
  match n with
  | 0 => none
  | n + 1 => (bif (decide (v11 < blocks)) then (Let (ref09_Nought) fun x18 => (Chk (appOK v12.length 1 16) (ref09_Format_L1 n blocks g x1 x4 x6 (wI64 (v11 + (1 : Int))) (v12 ++ ([x18] : (List Str)))))) else (some ((Disk.mk v12 ([] : (List Write)) (0 : Int) false), (0 : Int))))
def ref09_Format (n : Nat) (blocks : Int) (g : Int) : Option (Disk × Int) :=
  (Bnd (ref06_Encode n (Super.mk blocks (Vector.mk g (0 : Int) (A2.mk (0 : Int) (0 : Int))) false false false)) fun x1 => (bif (x1.2 != (0 : Int)) then (some ((Disk.mk ([] : (List Str)) ([] : (List Write)) (0 : Int) false), x1.2)) else (Bnd (ref01_Put32 n (0 : Int)) fun x4 => (Bnd (ref02_Seal n x4) fun x6 => (ref09_Format_L1 n blocks g x1 x4 x6 (0 : Int) ([x1.1, x6] : (List Str)))))))
theorem t_ref09_Format {n : Nat} {blocks : Int} {g : Int} {r : (Disk × Int)} (hg : ref09_Format n blocks g = some r) : VF Pg 62 [(.d (eI64 blocks)), (.d (eU64 g))] (single [(.d (eDisk r.1)), (.d (eI64 r.2))]) := by
  refine fn_ok (fn := Tryz.f62) (by kernel_rfl) rfl (by kernel_rfl) (Nat.le_of_ble_eq_true (by kernel_rfl)) fun B hB => ?_
  refine aw_seq ?_
  refine rg (Z := Zt) 1 0 [] [] [(0, (.d (eI64 blocks))), (1, (.d (eU64 g))), (4, (.ptr 0 0))] [(.var (.agg [(.full (([] : (List Str)).map eS)), (.full (([] : (List Write)).map eWrite)), (.d (eI64 (0 : Int))), (.d (eB false))]))] [] hmx (by kernel_rfl) good_nil ?_
  refine aw_seq ?_
  obtain ⟨x1, h2, hg⟩ := bnd_o hg
  refine rg (Z := Zt) 0 0 [(4, .vf (.tup [(.d (eS x1.1)), (.d (eI64 x1.2))]))] [.vf 125 [(.d (eSuper (Super.mk blocks (Vector.mk g (0 : Int) (A2.mk (0 : Int) (0 : Int))) false false false)))]] [(0, (.d (eI64 blocks))), (4, (.ptr 0 0)), (6, (.d (eS x1.1))), (7, (.d (eI64 x1.2)))] [(.var (.agg [(.full (([] : (List Str)).map eS)), (.full (([] : (List Write)).map eWrite)), (.d (eI64 (0 : Int))), (.d (eB false))]))] [] hmx (by kernel_rfl) (good_vf (t_ref06_Encode h2) rfl rfl good_nil) ?_
  refine aw_seq ?_
  refine aw_seq ?_
  refine rg (Z := Zt) 0 0 [] [] [(0, (.d (eI64 blocks))), (4, (.ptr 0 0)), (6, (.d (eS x1.1))), (7, (.d (eI64 x1.2))), (19, (.d (eB (x1.2 != (0 : Int)))))] [(.var (.agg [(.full (([] : (List Str)).map eS)), (.full (([] : (List Write)).map eWrite)), (.d (eI64 (0 : Int))), (.d (eB false))]))] [] hmx (by kernel_rfl) good_nil ?_
  rcases Bool.eq_false_or_eq_true (x1.2 != (0 : Int)) with h3 | h3
  · have hg := ite_t hg h3
    refine cd_t h3 (by kernel_rfl) ?_
    refine aw_seq ?_
    refine rg (Z := Zt) 0 0 [] [] [(4, (.ptr 0 0)), (5, (.d (eI64 x1.2)))] [(.var (.agg [(.full (([] : (List Str)).map eS)), (.full (([] : (List Write)).map eWrite)), (.d (eI64 (0 : Int))), (.d (eB false))]))] [] hmx (by kernel_rfl) good_nil ?_
    refine aw_ret ?_
    have hg := some_o hg
    subst hg
    exact lv_r [true, true] [] (by kernel_rfl)
  · have hg := ite_f hg h3
    refine cd_f h3 (by kernel_rfl) ?_
    refine aw_skip ?_
    refine aw_seq ?_
    obtain ⟨x4, h5, hg⟩ := bnd_o hg
    obtain ⟨x6, h7, hg⟩ := bnd_o hg
    refine rg (Z := Zt) 1 0 [(1, .vf (.d (eS x4))), (2, .vf (.d (eS x6)))] [.vf 127 [(.d (eU32 (0 : Int)))], .vf 126 [(.d (eS x4))]] [(0, (.d (eI64 blocks))), (4, (.ptr 0 0)), (8, (.ptr 1 0))] [(.var (.agg [(.full (([] : (List Str)).map eS)), (.full (([] : (List Write)).map eWrite)), (.d (eI64 (0 : Int))), (.d (eB false))])), (.var (.agg [(.full (([x1.1, x6] : (List Str)).map eS)), (.full (([] : (List Write)).map eWrite)), (.d (eI64 (0 : Int))), (.d (eB false))]))] [] hmx (by kernel_rfl) (good_vf (t_ref01_Put32 h5) rfl rfl (good_vf (t_ref02_Seal h7) rfl rfl good_nil)) ?_
    refine aw_seq ?_
    refine aw_seq ?_
    refine rg (Z := Zt) 0 0 [] [] [(0, (.d (eI64 blocks))), (4, (.ptr 0 0)), (8, (.ptr 1 0)), (9, (.d (eI64 (0 : Int))))] [(.var (.agg [(.full (([] : (List Str)).map eS)), (.full (([] : (List Write)).map eWrite)), (.d (eI64 (0 : Int))), (.d (eB false))])), (.var (.agg [(.full (([x1.1, x6] : (List Str)).map eS)), (.full (([] : (List Write)).map eWrite)), (.d (eI64 (0 : Int))), (.d (eB false))]))] [] hmx (by kernel_rfl) good_nil ?_
    refine aw_block ?_
    refine aw_loop (fun μ σ => ∃ (v11 : Int) (v12 : (List Str)), μ ≤ n ∧ ref09_Format_L1 μ blocks g x1 x4 x6 v11 v12 = some r ∧ Wk B σ (st Tryz.f62.ntmps [(0, (.d (eI64 blocks))), (4, (.ptr 0 0)), (8, (.ptr 1 0)), (9, (.d (eI64 v11)))] [(.var (.agg [(.full (([] : (List Str)).map eS)), (.full (([] : (List Write)).map eWrite)), (.d (eI64 (0 : Int))), (.d (eB false))])), (.var (.agg [(.own (v12.map eS) 0), (.full (([] : (List Write)).map eWrite)), (.d (eI64 (0 : Int))), (.d (eB false))]))] [(some v12.length)])) n ⟨(0 : Int), ([x1.1, x6] : (List Str)), Nat.le_refl _, hg, (Wk.trans (wk_room 1) (wk_adoptB (h := [(.var (.agg [(.full (([] : (List Str)).map eS)), (.full (([] : (List Write)).map eWrite)), (.d (eI64 (0 : Int))), (.d (eB false))])), (.var (.agg [(.own (([x1.1, x6] : (List Str)).map eS) 0), (.full (([] : (List Write)).map eWrite)), (.d (eI64 (0 : Int))), (.d (eB false))]))]) (k := [(some 2)]) 1 0 0 [(.full (([x1.1, x6] : (List Str)).map eS)), (.full (([] : (List Write)).map eWrite)), (.d (eI64 (0 : Int))), (.d (eB false))] (([x1.1, x6] : (List Str)).map eS) (by kernel_rfl)))⟩ ?_
    rintro μ σ ⟨v11, v12, hle, hg, hwk⟩
    refine aw_wk hwk ?_
    clear hwk
    cases μ with
    | zero => exact absurd (show none = some r from hg) (by simp)
    | succ n =>
      refine aw_seq ?_
      refine aw_seq ?_
      refine rg (Z := Zt) 0 0 [] [] [(0, (.d (eI64 blocks))), (4, (.ptr 0 0)), (8, (.ptr 1 0)), (9, (.d (eI64 v11))), (29, (.d (eB (decide (v11 < blocks)))))] [(.var (.agg [(.full (([] : (List Str)).map eS)), (.full (([] : (List Write)).map eWrite)), (.d (eI64 (0 : Int))), (.d (eB false))])), (.var (.agg [(.own (v12.map eS) 0), (.full (([] : (List Write)).map eWrite)), (.d (eI64 (0 : Int))), (.d (eB false))]))] [(some v12.length)] hmx (by kernel_rfl) good_nil ?_
      rcases Bool.eq_false_or_eq_true (decide (v11 < blocks)) with h17 | h17
      · have hg := ite_t hg h17
        refine cd_t h17 (by kernel_rfl) ?_
        refine aw_skip ?_
        refine aw_seq ?_
        refine aw_block ?_
        obtain ⟨x18, h19, hg⟩ := let_o hg
        obtain ⟨h20, hg⟩ := chk_o hg
        refine rg (Z := Zt) 0 1 [(2, .vf (.d (eS x18))), (4, .op (.tok 0 (v12 ++ ([x18] : (List Str))).length (.own ((v12 ++ ([x18] : (List Str))).map eS) 0)))] [.vf 128 [], .op (evBuiltin Pg .append [25, 25] [(.own (v12.map eS) 0), (.full (([x18] : (List Str)).map eS))] [(some v12.length), none] 1)] [(0, (.d (eI64 blocks))), (4, (.ptr 0 0)), (8, (.ptr 1 0)), (9, (.d (eI64 v11)))] [(.var (.agg [(.full (([] : (List Str)).map eS)), (.full (([] : (List Write)).map eWrite)), (.d (eI64 (0 : Int))), (.d (eB false))])), (.var (.agg [(.own ((v12 ++ ([x18] : (List Str))).map eS) 0), (.full (([] : (List Write)).map eWrite)), (.d (eI64 (0 : Int))), (.d (eB false))]))] [(some (v12 ++ ([x18] : (List Str))).length), none] hmx (by kernel_rfl) (good_vf (t_ref09_Nought h19) rfl rfl (good_op (app_own (s := 1) (b := false) (by_ := 16) (s' := 1) (b' := false) (y' := 16) (l := v12) (m := ([x18] : (List Str))) (f := eS) (by kernel_rfl) (by kernel_rfl) (by kernel_rfl) (by decide) (fun _ => rfl) rfl rfl h20) good_nil)) ?_
        refine rg (Z := Zt) 0 0 [] [] [(0, (.d (eI64 blocks))), (4, (.ptr 0 0)), (8, (.ptr 1 0)), (9, (.d (eI64 (wI64 (v11 + (1 : Int))))))] [(.var (.agg [(.full (([] : (List Str)).map eS)), (.full (([] : (List Write)).map eWrite)), (.d (eI64 (0 : Int))), (.d (eB false))])), (.var (.agg [(.own ((v12 ++ ([x18] : (List Str))).map eS) 0), (.full (([] : (List Write)).map eWrite)), (.d (eI64 (0 : Int))), (.d (eB false))]))] [(some (v12 ++ ([x18] : (List Str))).length), none] hmx (by kernel_rfl) good_nil ?_
        exact ⟨n, by omega, (wI64 (v11 + (1 : Int))), (v12 ++ ([x18] : (List Str))), by omega, hg, (wk_cut (l := [(0, (.d (eI64 blocks))), (4, (.ptr 0 0)), (8, (.ptr 1 0)), (9, (.d (eI64 (wI64 (v11 + (1 : Int))))))]) (h := [(.var (.agg [(.full (([] : (List Str)).map eS)), (.full (([] : (List Write)).map eWrite)), (.d (eI64 (0 : Int))), (.d (eB false))])), (.var (.agg [(.own ((v12 ++ ([x18] : (List Str))).map eS) 0), (.full (([] : (List Write)).map eWrite)), (.d (eI64 (0 : Int))), (.d (eB false))]))]) (k := [(some (v12 ++ ([x18] : (List Str))).length)]) hB 2 1 (by kernel_rfl) (by kernel_rfl))⟩
      · have hg := ite_f hg h17
        refine cd_f h17 (by kernel_rfl) ?_
        refine aw_exit ?_
        refine aw_seq ?_
        refine rg (Z := Zt) 0 0 [] [] [(4, (.ptr 0 0)), (5, (.d (eI64 (0 : Int))))] [(.var (.agg [(.own (v12.map eS) 0), (.full (([] : (List Write)).map eWrite)), (.d (eI64 (0 : Int))), (.d (eB false))])), (.var (.agg [(.own (v12.map eS) 0), (.full (([] : (List Write)).map eWrite)), (.d (eI64 (0 : Int))), (.d (eB false))]))] [(some v12.length)] hmx (by kernel_rfl) good_nil ?_
        refine aw_ret ?_
        have hg := some_o hg
        subst hg
        exact lv_r [true, true] [] (by kernel_rfl)

/- ref09.there -/
def ref09_there (d : Disk) (i : Int) : Bool :=
  (bif (decide (i ≥ (0 : Int))) then (decide (i < (wI64 ((d.sure.length : Int) - (2 : Int))))) else false)
theorem t_ref09_there {d : Disk} {i : Int} {r : Bool} (hg : ref09_there d i = r) : VF Pg 184 [(.d (eDisk d)), (.d (eI64 i))] (single [(.d (eB r))]) := by
  refine fn_ok (fn := Tryz.f184) (by kernel_rfl) rfl (by kernel_rfl) (Nat.le_of_ble_eq_true (by kernel_rfl)) fun B hB => ?_
  refine aw_seq ?_
  refine rg (Z := Zt) 1 0 [] [] [(1, (.d (eI64 i))), (2, (.ptr 0 0))] [(.var (.d (eDisk d)))] [] hmx (by kernel_rfl) good_nil ?_
  refine aw_seq ?_
  rcases Bool.eq_false_or_eq_true (decide (i ≥ (0 : Int))) with h1 | h1
  · have hg := ite_t hg h1
    refine rg (Z := Zt) 0 0 [(2, .op (.val (.d (eB true)))), (6, .op (.val (.d (eI64 (d.sure.length : Int)))))] [.op (some (.val (.d (eB (decide (i ≥ (0 : Int))))))), .op (xLen Pg 25 (.d ((eL eS) d.sure)))] [(4, (.d (eB (decide (i < (wI64 ((d.sure.length : Int) - (2 : Int))))))))] [(.var (.d (eDisk d)))] [] hmx (by kernel_rfl) (good_op (bo h1) (good_op (len_d (e := 9) (by kernel_rfl)) good_nil)) ?_
    refine aw_ret ?_
    subst hg
    exact lv_r [true] [] (by kernel_rfl)
  · have hg := ite_f hg h1
    refine rg (Z := Zt) 0 0 [(2, .op (.val (.d (eB false))))] [.op (some (.val (.d (eB (decide (i ≥ (0 : Int)))))))] [(4, (.d (eB false)))] [(.var (.d (eDisk d)))] [] hmx (by kernel_rfl) (good_op (bo h1) good_nil) ?_
    refine aw_ret ?_
    subst hg
    exact lv_r [true] [] (by kernel_rfl)

/- ref04.holds -/
def ref04_holds_L1 (n : Nat) (d : Disk) (i : Int) (v5 : Str) (v6 : Int) : Option Str :=
  match n with
  | 0 => none
  | n + 1 => (bif (decide (v6 < (d.cache.length : Int))) then (Chk (inR v6 d.cache.length) (bif ((gt d.cache v6).sector == i) then (ref04_holds_L1 n d i ((gt d.cache v6).data) (wI64 (v6 + (1 : Int)))) else (ref04_holds_L1 n d i v5 (wI64 (v6 + (1 : Int)))))) else (some v5))
def ref04_holds (n : Nat) (d : Disk) (i : Int) : Option Str :=
  (Chk (inR i d.sure.length) (ref04_holds_L1 n d i (gt d.sure i) (0 : Int)))
theorem t_ref04_holds {n : Nat} {d : Disk} {i : Int} {r : Str} (hg : ref04_holds n d i = some r) : VF Pg 257 [(.d (eDisk d)), (.d (eI64 i))] (single [(.d (eS r))]) := by
  refine fn_ok (fn := Tryz.f257) (by kernel_rfl) rfl (by kernel_rfl) (Nat.le_of_ble_eq_true (by kernel_rfl)) fun B hB => ?_
  refine aw_seq ?_
  refine rg (Z := Zt) 1 0 [] [] [(1, (.d (eI64 i))), (2, (.ptr 0 0))] [(.var (.d (eDisk d)))] [] hmx (by kernel_rfl) good_nil ?_
  refine aw_seq ?_
  obtain ⟨h1, hg⟩ := chk_o hg
  refine rg (Z := Zt) 0 0 [(3, .op (.val (.kp (eS (gt d.sure i)))))] [.op (xIdA Pg 25 (.d ((eL eS) d.sure)) (.d (eI64 i)))] [(1, (.d (eI64 i))), (2, (.ptr 0 0)), (5, (.d (eS (gt d.sure i))))] [(.var (.d (eDisk d)))] [] hmx (by kernel_rfl) (good_op (idx_d (s := 1) (b := false) (by_ := 16) (by kernel_rfl) (fun _ => rfl) h1) good_nil) ?_
  refine aw_seq ?_
  refine aw_seq ?_
  refine rg (Z := Zt) 0 0 [] [] [(1, (.d (eI64 i))), (2, (.ptr 0 0)), (5, (.d (eS (gt d.sure i)))), (6, (.d (eI64 (0 : Int))))] [(.var (.d (eDisk d)))] [] hmx (by kernel_rfl) good_nil ?_
  refine aw_block ?_
  refine aw_loop (fun μ σ => ∃ (v5 : Str) (v6 : Int), μ ≤ n ∧ ref04_holds_L1 μ d i v5 v6 = some r ∧ Wk B σ (st Tryz.f257.ntmps [(1, (.d (eI64 i))), (2, (.ptr 0 0)), (5, (.d (eS v5))), (6, (.d (eI64 v6)))] [(.var (.d (eDisk d)))] [])) n ⟨(gt d.sure i), (0 : Int), Nat.le_refl _, hg, (Wk.refl _)⟩ ?_
  rintro μ σ ⟨v5, v6, hle, hg, hwk⟩
  refine aw_wk hwk ?_
  clear hwk
  cases μ with
  | zero => exact absurd (show none = some r from hg) (by simp)
  | succ n =>
    refine aw_seq ?_
    refine aw_seq ?_
    refine rg (Z := Zt) 0 0 [(3, .op (.val (.d (eI64 (d.cache.length : Int)))))] [.op (xLen Pg 26 (.d ((eL eWrite) d.cache)))] [(1, (.d (eI64 i))), (2, (.ptr 0 0)), (5, (.d (eS v5))), (6, (.d (eI64 v6))), (16, (.d (eB (decide (v6 < (d.cache.length : Int))))))] [(.var (.d (eDisk d)))] [] hmx (by kernel_rfl) (good_op (len_d (e := 126) (by kernel_rfl)) good_nil) ?_
    rcases Bool.eq_false_or_eq_true (decide (v6 < (d.cache.length : Int))) with h10 | h10
    · have hg := ite_t hg h10
      refine cd_t h10 (by kernel_rfl) ?_
      refine aw_skip ?_
      refine aw_seq ?_
      refine aw_block ?_
      refine aw_seq ?_
      obtain ⟨h11, hg⟩ := chk_o hg
      refine rg (Z := Zt) 0 0 [(3, .op (.val (.kp (eWrite (gt d.cache v6)))))] [.op (xIdA Pg 26 (.d ((eL eWrite) d.cache)) (.d (eI64 v6)))] [(1, (.d (eI64 i))), (2, (.ptr 0 0)), (5, (.d (eS v5))), (6, (.d (eI64 v6))), (26, (.d (eB ((gt d.cache v6).sector == i))))] [(.var (.d (eDisk d)))] [] hmx (by kernel_rfl) (good_op (idx_d (s := 2) (b := true) (by_ := 24) (by kernel_rfl) (fun _ => rfl) h11) good_nil) ?_
      rcases Bool.eq_false_or_eq_true ((gt d.cache v6).sector == i) with h12 | h12
      · have hg := ite_t hg h12
        refine cd_t h12 (by kernel_rfl) ?_
        refine rg (Z := Zt) 0 0 [(3, .op (.val (.kp (eWrite (gt d.cache v6)))))] [.op (xIdA Pg 26 (.d ((eL eWrite) d.cache)) (.d (eI64 v6)))] [(1, (.d (eI64 i))), (2, (.ptr 0 0)), (5, (.d (eS (gt d.cache v6).data))), (6, (.d (eI64 v6)))] [(.var (.d (eDisk d)))] [] hmx (by kernel_rfl) (good_op (idx_d (s := 2) (b := true) (by_ := 24) (by kernel_rfl) (fun _ => rfl) h11) good_nil) ?_
        refine rg (Z := Zt) 0 0 [] [] [(1, (.d (eI64 i))), (2, (.ptr 0 0)), (5, (.d (eS (gt d.cache v6).data))), (6, (.d (eI64 (wI64 (v6 + (1 : Int))))))] [(.var (.d (eDisk d)))] [] hmx (by kernel_rfl) good_nil ?_
        exact ⟨n, by omega, (gt d.cache v6).data, (wI64 (v6 + (1 : Int))), by omega, hg, (Wk.refl _)⟩
      · have hg := ite_f hg h12
        refine cd_f h12 (by kernel_rfl) ?_
        refine aw_skip ?_
        refine rg (Z := Zt) 0 0 [] [] [(1, (.d (eI64 i))), (2, (.ptr 0 0)), (5, (.d (eS v5))), (6, (.d (eI64 (wI64 (v6 + (1 : Int))))))] [(.var (.d (eDisk d)))] [] hmx (by kernel_rfl) good_nil ?_
        exact ⟨n, by omega, v5, (wI64 (v6 + (1 : Int))), by omega, hg, (Wk.refl _)⟩
    · have hg := ite_f hg h10
      refine cd_f h10 (by kernel_rfl) ?_
      refine aw_exit ?_
      refine aw_seq ?_
      refine rg (Z := Zt) 0 0 [] [] [(4, (.d (eS v5)))] [(.var (.d (eDisk d)))] [] hmx (by kernel_rfl) good_nil ?_
      refine aw_ret ?_
      have hg := some_o hg
      subst hg
      exact lv_r [true] [] (by kernel_rfl)

/- ref04.Read -/
def ref04_Read (n : Nat) (d : Disk) (i : Int) : Option (Str × Int) :=
  (bif d.dead then (some (([] : Str), (6 : Int))) else (bif (decide (i < (0 : Int))) then (some (([] : Str), (4 : Int))) else (bif (decide (i ≥ (d.sure.length : Int))) then (some (([] : Str), (4 : Int))) else (Bnd (ref04_holds n d i) fun x4 => (some (x4, (0 : Int)))))))
theorem t_ref04_Read {n : Nat} {d : Disk} {i : Int} {r : (Str × Int)} (hg : ref04_Read n d i = some r) : VF Pg 185 [(.d (eDisk d)), (.d (eI64 i))] (single [(.d (eS r.1)), (.d (eI64 r.2))]) := by
  refine fn_ok (fn := Tryz.f185) (by kernel_rfl) rfl (by kernel_rfl) (Nat.le_of_ble_eq_true (by kernel_rfl)) fun B hB => ?_
  refine aw_seq ?_
  refine rg (Z := Zt) 1 0 [] [] [(1, (.d (eI64 i))), (2, (.ptr 0 0))] [(.var (.d (eDisk d)))] [] hmx (by kernel_rfl) good_nil ?_
  refine aw_seq ?_
  refine aw_seq ?_
  refine rg (Z := Zt) 0 0 [] [] [(1, (.d (eI64 i))), (2, (.ptr 0 0)), (7, (.d (eB d.dead)))] [(.var (.d (eDisk d)))] [] hmx (by kernel_rfl) good_nil ?_
  rcases Bool.eq_false_or_eq_true d.dead with h1 | h1
  · have hg := ite_t hg h1
    refine cd_t h1 (by kernel_rfl) ?_
    refine aw_seq ?_
    refine rg (Z := Zt) 0 0 [] [] [(4, (.d (eS ([] : Str)))), (5, (.d (eI64 (6 : Int))))] [(.var (.d (eDisk d)))] [] hmx (by kernel_rfl) good_nil ?_
    refine aw_ret ?_
    have hg := some_o hg
    subst hg
    exact lv_r [true, true] [] (by kernel_rfl)
  · have hg := ite_f hg h1
    refine cd_f h1 (by kernel_rfl) ?_
    refine aw_skip ?_
    refine aw_seq ?_
    refine aw_seq ?_
    rcases Bool.eq_false_or_eq_true (decide (i < (0 : Int))) with h2 | h2
    · have hg := ite_t hg h2
      refine rg (Z := Zt) 0 0 [(2, .op (.val (.d (eB true))))] [.op (some (.val (.d (eB (decide (i < (0 : Int)))))))] [(1, (.d (eI64 i))), (2, (.ptr 0 0)), (16, (.d (eB true)))] [(.var (.d (eDisk d)))] [] hmx (by kernel_rfl) (good_op (bo h2) good_nil) ?_
      refine cd_t rfl (by kernel_rfl) ?_
      refine aw_seq ?_
      refine rg (Z := Zt) 0 0 [] [] [(4, (.d (eS ([] : Str)))), (5, (.d (eI64 (4 : Int))))] [(.var (.d (eDisk d)))] [] hmx (by kernel_rfl) good_nil ?_
      refine aw_ret ?_
      have hg := some_o hg
      subst hg
      exact lv_r [true, true] [] (by kernel_rfl)
    · have hg := ite_f hg h2
      refine rg (Z := Zt) 0 0 [(2, .op (.val (.d (eB false)))), (6, .op (.val (.d (eI64 (d.sure.length : Int)))))] [.op (some (.val (.d (eB (decide (i < (0 : Int))))))), .op (xLen Pg 25 (.d ((eL eS) d.sure)))] [(1, (.d (eI64 i))), (2, (.ptr 0 0)), (16, (.d (eB (decide (i ≥ (d.sure.length : Int))))))] [(.var (.d (eDisk d)))] [] hmx (by kernel_rfl) (good_op (bo h2) (good_op (len_d (e := 9) (by kernel_rfl)) good_nil)) ?_
      rcases Bool.eq_false_or_eq_true (decide (i ≥ (d.sure.length : Int))) with h3 | h3
      · have hg := ite_t hg h3
        refine cd_t h3 (by kernel_rfl) ?_
        refine aw_seq ?_
        refine rg (Z := Zt) 0 0 [] [] [(4, (.d (eS ([] : Str)))), (5, (.d (eI64 (4 : Int))))] [(.var (.d (eDisk d)))] [] hmx (by kernel_rfl) good_nil ?_
        refine aw_ret ?_
        have hg := some_o hg
        subst hg
        exact lv_r [true, true] [] (by kernel_rfl)
      · have hg := ite_f hg h3
        refine cd_f h3 (by kernel_rfl) ?_
        refine aw_skip ?_
        refine aw_seq ?_
        obtain ⟨x4, h5, hg⟩ := bnd_o hg
        refine rg (Z := Zt) 0 0 [(2, .vf (.d (eS x4)))] [.vf 257 [(.d (eDisk d)), (.d (eI64 i))]] [(4, (.d (eS x4))), (5, (.d (eI64 (0 : Int))))] [(.var (.d (eDisk d)))] [] hmx (by kernel_rfl) (good_vf (t_ref04_holds h5) rfl rfl good_nil) ?_
        refine aw_ret ?_
        have hg := some_o hg
        subst hg
        exact lv_r [true, true] [] (by kernel_rfl)

/- ref09.Read -/
def ref09_Read (n : Nat) (d : Disk) (i : Int) : Option (Str × Int) :=
  (Let (ref09_there d i) fun x1 => (bif (!x1) then (some (([] : Str), (4 : Int))) else (Bnd (ref04_Read n d (wI64 (i + (2 : Int)))) fun x4 => (bif (x4.2 != (0 : Int)) then (some (([] : Str), x4.2)) else (bif ((x4.1.length : Int) != (8 : Int)) then (some (([] : Str), (2 : Int))) else (some (x4.1, (0 : Int))))))))
theorem t_ref09_Read {n : Nat} {d : Disk} {i : Int} {r : (Str × Int)} (hg : ref09_Read n d i = some r) : VF Pg 119 [(.d (eDisk d)), (.d (eI64 i))] (single [(.d (eS r.1)), (.d (eI64 r.2))]) := by
  refine fn_ok (fn := Tryz.f119) (by kernel_rfl) rfl (by kernel_rfl) (Nat.le_of_ble_eq_true (by kernel_rfl)) fun B hB => ?_
  refine aw_seq ?_
  refine rg (Z := Zt) 1 0 [] [] [(1, (.d (eI64 i))), (2, (.ptr 0 0))] [(.var (.d (eDisk d)))] [] hmx (by kernel_rfl) good_nil ?_
  refine aw_seq ?_
  refine aw_seq ?_
  obtain ⟨x1, h2, hg⟩ := let_o hg
  refine rg (Z := Zt) 0 0 [(2, .vf (.d (eB x1)))] [.vf 184 [(.d (eDisk d)), (.d (eI64 i))]] [(1, (.d (eI64 i))), (2, (.ptr 0 0)), (11, (.d (eB (!x1))))] [(.var (.d (eDisk d)))] [] hmx (by kernel_rfl) (good_vf (t_ref09_there h2) rfl rfl good_nil) ?_
  rcases Bool.eq_false_or_eq_true (!x1) with h3 | h3
  · have hg := ite_t hg h3
    refine cd_t h3 (by kernel_rfl) ?_
    refine aw_seq ?_
    refine rg (Z := Zt) 0 0 [] [] [(4, (.d (eS ([] : Str)))), (5, (.d (eI64 (4 : Int))))] [(.var (.d (eDisk d)))] [] hmx (by kernel_rfl) good_nil ?_
    refine aw_ret ?_
    have hg := some_o hg
    subst hg
    exact lv_r [true, true] [] (by kernel_rfl)
  · have hg := ite_f hg h3
    refine cd_f h3 (by kernel_rfl) ?_
    refine aw_skip ?_
    refine aw_seq ?_
    obtain ⟨x4, h5, hg⟩ := bnd_o hg
    refine rg (Z := Zt) 0 0 [(3, .vf (.tup [(.d (eS x4.1)), (.d (eI64 x4.2))]))] [.vf 185 [(.d (eDisk d)), (.d (eI64 (wI64 (i + (2 : Int)))))]] [(6, (.d (eS x4.1))), (7, (.d (eI64 x4.2)))] [(.var (.d (eDisk d)))] [] hmx (by kernel_rfl) (good_vf (t_ref04_Read h5) rfl rfl good_nil) ?_
    refine aw_seq ?_
    refine aw_seq ?_
    refine rg (Z := Zt) 0 0 [] [] [(6, (.d (eS x4.1))), (7, (.d (eI64 x4.2))), (20, (.d (eB (x4.2 != (0 : Int)))))] [(.var (.d (eDisk d)))] [] hmx (by kernel_rfl) good_nil ?_
    rcases Bool.eq_false_or_eq_true (x4.2 != (0 : Int)) with h6 | h6
    · have hg := ite_t hg h6
      refine cd_t h6 (by kernel_rfl) ?_
      refine aw_seq ?_
      refine rg (Z := Zt) 0 0 [] [] [(4, (.d (eS ([] : Str)))), (5, (.d (eI64 x4.2)))] [(.var (.d (eDisk d)))] [] hmx (by kernel_rfl) good_nil ?_
      refine aw_ret ?_
      have hg := some_o hg
      subst hg
      exact lv_r [true, true] [] (by kernel_rfl)
    · have hg := ite_f hg h6
      refine cd_f h6 (by kernel_rfl) ?_
      refine aw_skip ?_
      refine aw_seq ?_
      refine aw_seq ?_
      refine rg (Z := Zt) 0 0 [] [] [(6, (.d (eS x4.1))), (24, (.d (eB ((x4.1.length : Int) != (8 : Int)))))] [(.var (.d (eDisk d)))] [] hmx (by kernel_rfl) good_nil ?_
      rcases Bool.eq_false_or_eq_true ((x4.1.length : Int) != (8 : Int)) with h7 | h7
      · have hg := ite_t hg h7
        refine cd_t h7 (by kernel_rfl) ?_
        refine aw_seq ?_
        refine rg (Z := Zt) 0 0 [] [] [(4, (.d (eS ([] : Str)))), (5, (.d (eI64 (2 : Int))))] [(.var (.d (eDisk d)))] [] hmx (by kernel_rfl) good_nil ?_
        refine aw_ret ?_
        have hg := some_o hg
        subst hg
        exact lv_r [true, true] [] (by kernel_rfl)
      · have hg := ite_f hg h7
        refine cd_f h7 (by kernel_rfl) ?_
        refine aw_skip ?_
        refine aw_seq ?_
        refine rg (Z := Zt) 0 0 [] [] [(4, (.d (eS x4.1))), (5, (.d (eI64 (0 : Int))))] [(.var (.d (eDisk d)))] [] hmx (by kernel_rfl) good_nil ?_
        refine aw_ret ?_
        have hg := some_o hg
        subst hg
        exact lv_r [true, true] [] (by kernel_rfl)

/- ref09.All -/
def ref09_All_L1 (n : Nat) (d : Disk) (v5 : (List Str)) (v6 : Int) : Option ((List Str) × Int) :=
  match n with
  | 0 => none
  | n + 1 => (bif (decide (v6 < (wI64 ((d.sure.length : Int) - (2 : Int))))) then (Bnd (ref09_Read n d v6) fun x13 => (bif (x13.2 != (0 : Int)) then (some (([] : (List Str)), x13.2)) else (Chk (appOK v5.length 1 16) (ref09_All_L1 n d (v5 ++ ([x13.1] : (List Str))) (wI64 (v6 + (1 : Int))))))) else (some (v5, (0 : Int))))
def ref09_All (n : Nat) (d : Disk) : Option ((List Str) × Int) :=
  (ref09_All_L1 n d ([] : (List Str)) (0 : Int))
theorem t_ref09_All {n : Nat} {d : Disk} {r : ((List Str) × Int)} (hg : ref09_All n d = some r) : VF Pg 55 [(.d (eDisk d))] (single [(.d ((eL eS) r.1)), (.d (eI64 r.2))]) := by
  refine fn_ok (fn := Tryz.f55) (by kernel_rfl) rfl (by kernel_rfl) (Nat.le_of_ble_eq_true (by kernel_rfl)) fun B hB => ?_
  refine aw_seq ?_
  refine rg (Z := Zt) 1 0 [] [] [(1, (.ptr 0 0))] [(.var (.d (eDisk d)))] [] hmx (by kernel_rfl) good_nil ?_
  refine aw_seq ?_
  refine rg (Z := Zt) 0 0 [] [] [(1, (.ptr 0 0)), (4, (.full (([] : (List Str)).map eS)))] [(.var (.d (eDisk d)))] [] hmx (by kernel_rfl) good_nil ?_
  refine aw_seq ?_
  refine aw_seq ?_
  refine rg (Z := Zt) 0 0 [] [] [(1, (.ptr 0 0)), (4, (.full (([] : (List Str)).map eS))), (5, (.d (eI64 (0 : Int))))] [(.var (.d (eDisk d)))] [] hmx (by kernel_rfl) good_nil ?_
  refine aw_block ?_
  refine aw_loop (fun μ σ => ∃ (v5 : (List Str)) (v6 : Int), μ ≤ n ∧ ref09_All_L1 μ d v5 v6 = some r ∧ Wk B σ (st Tryz.f55.ntmps [(1, (.ptr 0 0)), (4, (.own (v5.map eS) 0)), (5, (.d (eI64 v6)))] [(.var (.d (eDisk d)))] [(some v5.length)])) n ⟨([] : (List Str)), (0 : Int), Nat.le_refl _, hg, (Wk.trans (wk_room 1) (wk_adopt (l := [(1, (.ptr 0 0)), (4, (.own (([] : (List Str)).map eS) 0)), (5, (.d (eI64 (0 : Int))))]) (k := [(some 0)]) 4 0 (([] : (List Str)).map eS) (by kernel_rfl)))⟩ ?_
  rintro μ σ ⟨v5, v6, hle, hg, hwk⟩
  refine aw_wk hwk ?_
  clear hwk
  cases μ with
  | zero => exact absurd (show none = some r from hg) (by simp)
  | succ n =>
    refine aw_seq ?_
    refine aw_seq ?_
    refine rg (Z := Zt) 0 0 [(3, .op (.val (.d (eI64 (d.sure.length : Int)))))] [.op (xLen Pg 25 (.d ((eL eS) d.sure)))] [(1, (.ptr 0 0)), (4, (.own (v5.map eS) 0)), (5, (.d (eI64 v6))), (13, (.d (eB (decide (v6 < (wI64 ((d.sure.length : Int) - (2 : Int))))))))] [(.var (.d (eDisk d)))] [(some v5.length)] hmx (by kernel_rfl) (good_op (len_d (e := 9) (by kernel_rfl)) good_nil) ?_
    rcases Bool.eq_false_or_eq_true (decide (v6 < (wI64 ((d.sure.length : Int) - (2 : Int))))) with h12 | h12
    · have hg := ite_t hg h12
      refine cd_t h12 (by kernel_rfl) ?_
      refine aw_skip ?_
      refine aw_seq ?_
      refine aw_block ?_
      refine aw_seq ?_
      obtain ⟨x13, h14, hg⟩ := bnd_o hg
      refine rg (Z := Zt) 0 0 [(2, .vf (.tup [(.d (eS x13.1)), (.d (eI64 x13.2))]))] [.vf 119 [(.d (eDisk d)), (.d (eI64 v6))]] [(1, (.ptr 0 0)), (4, (.own (v5.map eS) 0)), (5, (.d (eI64 v6))), (6, (.d (eS x13.1))), (7, (.d (eI64 x13.2)))] [(.var (.d (eDisk d)))] [(some v5.length)] hmx (by kernel_rfl) (good_vf (t_ref09_Read h14) rfl rfl good_nil) ?_
      refine aw_seq ?_
      refine aw_seq ?_
      refine rg (Z := Zt) 0 0 [] [] [(1, (.ptr 0 0)), (4, (.own (v5.map eS) 0)), (5, (.d (eI64 v6))), (6, (.d (eS x13.1))), (7, (.d (eI64 x13.2))), (23, (.d (eB (x13.2 != (0 : Int)))))] [(.var (.d (eDisk d)))] [(some v5.length)] hmx (by kernel_rfl) good_nil ?_
      rcases Bool.eq_false_or_eq_true (x13.2 != (0 : Int)) with h15 | h15
      · have hg := ite_t hg h15
        refine cd_t h15 (by kernel_rfl) ?_
        refine aw_seq ?_
        refine rg (Z := Zt) 0 0 [] [] [(2, (.full (([] : (List Str)).map eS))), (3, (.d (eI64 x13.2)))] [(.var (.d (eDisk d)))] [(some v5.length)] hmx (by kernel_rfl) good_nil ?_
        refine aw_ret ?_
        have hg := some_o hg
        subst hg
        exact lv_r [true, true] [] (by kernel_rfl)
      · have hg := ite_f hg h15
        refine cd_f h15 (by kernel_rfl) ?_
        refine aw_skip ?_
        obtain ⟨h16, hg⟩ := chk_o hg
        refine rg (Z := Zt) 0 1 [(3, .op (.tok 0 (v5 ++ ([x13.1] : (List Str))).length (.own ((v5 ++ ([x13.1] : (List Str))).map eS) 0)))] [.op (evBuiltin Pg .append [25, 25] [(.own (v5.map eS) 0), (.full (([x13.1] : (List Str)).map eS))] [(some v5.length), none] 1)] [(1, (.ptr 0 0)), (4, (.own ((v5 ++ ([x13.1] : (List Str))).map eS) 0)), (5, (.d (eI64 v6)))] [(.var (.d (eDisk d)))] [(some (v5 ++ ([x13.1] : (List Str))).length), none] hmx (by kernel_rfl) (good_op (app_own (s := 1) (b := false) (by_ := 16) (s' := 1) (b' := false) (y' := 16) (l := v5) (m := ([x13.1] : (List Str))) (f := eS) (by kernel_rfl) (by kernel_rfl) (by kernel_rfl) (by decide) (fun _ => rfl) rfl rfl h16) good_nil) ?_
        refine rg (Z := Zt) 0 0 [] [] [(1, (.ptr 0 0)), (4, (.own ((v5 ++ ([x13.1] : (List Str))).map eS) 0)), (5, (.d (eI64 (wI64 (v6 + (1 : Int))))))] [(.var (.d (eDisk d)))] [(some (v5 ++ ([x13.1] : (List Str))).length), none] hmx (by kernel_rfl) good_nil ?_
        exact ⟨n, by omega, (v5 ++ ([x13.1] : (List Str))), (wI64 (v6 + (1 : Int))), by omega, hg, (wk_cut (l := [(1, (.ptr 0 0)), (4, (.own ((v5 ++ ([x13.1] : (List Str))).map eS) 0)), (5, (.d (eI64 (wI64 (v6 + (1 : Int))))))]) (h := [(.var (.d (eDisk d)))]) (k := [(some (v5 ++ ([x13.1] : (List Str))).length)]) hB 1 1 (by kernel_rfl) (by kernel_rfl))⟩
    · have hg := ite_f hg h12
      refine cd_f h12 (by kernel_rfl) ?_
      refine aw_exit ?_
      refine aw_seq ?_
      refine rg (Z := Zt) 0 0 [] [] [(2, (.own (v5.map eS) 0)), (3, (.d (eI64 (0 : Int))))] [(.var (.d (eDisk d)))] [(some v5.length)] hmx (by kernel_rfl) good_nil ?_
      refine aw_ret ?_
      have hg := some_o hg
      subst hg
      exact lv_r [true, true] [] (by kernel_rfl)

/- ref02.Open -/
def ref02_Open (n : Nat) (s : Str) : Option (Str × Int) :=
  (bif (decide ((s.length : Int) < (4 : Int))) then (some (([] : Str), (2 : Int))) else (Chk (hiOK (wI64 ((s.length : Int) - (4 : Int))) s.length) (Bnd (ref02_Seal n (s.take (wI64 ((s.length : Int) - (4 : Int))).toNat)) fun x3 => (bif (!(x3 == s)) then (some (([] : Str), (3 : Int))) else (some ((s.take (wI64 ((s.length : Int) - (4 : Int))).toNat), (0 : Int)))))))
theorem t_ref02_Open {n : Nat} {s : Str} {r : (Str × Int)} (hg : ref02_Open n s = some r) : VF Pg 159 [(.d (eS s))] (single [(.d (eS r.1)), (.d (eI64 r.2))]) := by
  refine fn_ok (fn := Tryz.f159) (by kernel_rfl) rfl (by kernel_rfl) (Nat.le_of_ble_eq_true (by kernel_rfl)) fun B hB => ?_
  refine aw_seq ?_
  refine rg (Z := Zt) 0 0 [] [] [(0, (.d (eS s)))] [] [] hmx (by kernel_rfl) good_nil ?_
  refine aw_seq ?_
  refine aw_seq ?_
  refine rg (Z := Zt) 0 0 [] [] [(0, (.d (eS s))), (7, (.d (eB (decide ((s.length : Int) < (4 : Int))))))] [] [] hmx (by kernel_rfl) good_nil ?_
  rcases Bool.eq_false_or_eq_true (decide ((s.length : Int) < (4 : Int))) with h1 | h1
  · have hg := ite_t hg h1
    refine cd_t h1 (by kernel_rfl) ?_
    refine aw_seq ?_
    refine rg (Z := Zt) 0 0 [] [] [(2, (.d (eS ([] : Str)))), (3, (.d (eI64 (2 : Int))))] [] [] hmx (by kernel_rfl) good_nil ?_
    refine aw_ret ?_
    have hg := some_o hg
    subst hg
    exact lv_r [true, true] [] (by kernel_rfl)
  · have hg := ite_f hg h1
    refine cd_f h1 (by kernel_rfl) ?_
    refine aw_skip ?_
    refine aw_seq ?_
    obtain ⟨h2, hg⟩ := chk_o hg
    refine rg (Z := Zt) 0 0 [(4, .op (.val (.d (eS (s.take (wI64 ((s.length : Int) - (4 : Int))).toNat)))))] [.op (evSlice Pg 9 (.d (eS s)) none (some (.d (eI64 (wI64 ((s.length : Int) - (4 : Int)))))) none [])] [(0, (.d (eS s))), (4, (.d (eS (s.take (wI64 ((s.length : Int) - (4 : Int))).toNat))))] [] [] hmx (by kernel_rfl) (good_op (sub_str_hi (by kernel_rfl) h2) good_nil) ?_
    refine aw_seq ?_
    refine aw_seq ?_
    obtain ⟨x3, h4, hg⟩ := bnd_o hg
    refine rg (Z := Zt) 0 0 [(1, .vf (.d (eS x3)))] [.vf 126 [(.d (eS (s.take (wI64 ((s.length : Int) - (4 : Int))).toNat)))]] [(4, (.d (eS (s.take (wI64 ((s.length : Int) - (4 : Int))).toNat)))), (16, (.d (eB (!(x3 == s)))))] [] [] hmx (by kernel_rfl) (good_vf (t_ref02_Seal h4) rfl rfl good_nil) ?_
    rcases Bool.eq_false_or_eq_true (!(x3 == s)) with h5 | h5
    · have hg := ite_t hg h5
      refine cd_t h5 (by kernel_rfl) ?_
      refine aw_seq ?_
      refine rg (Z := Zt) 0 0 [] [] [(2, (.d (eS ([] : Str)))), (3, (.d (eI64 (3 : Int))))] [] [] hmx (by kernel_rfl) good_nil ?_
      refine aw_ret ?_
      have hg := some_o hg
      subst hg
      exact lv_r [true, true] [] (by kernel_rfl)
    · have hg := ite_f hg h5
      refine cd_f h5 (by kernel_rfl) ?_
      refine aw_skip ?_
      refine aw_seq ?_
      refine rg (Z := Zt) 0 0 [] [] [(2, (.d (eS (s.take (wI64 ((s.length : Int) - (4 : Int))).toNat)))), (3, (.d (eI64 (0 : Int))))] [] [] hmx (by kernel_rfl) good_nil ?_
      refine aw_ret ?_
      have hg := some_o hg
      subst hg
      exact lv_r [true, true] [] (by kernel_rfl)

/- ref01.Unflag -/
def ref01_Unflag_L1 (n : Nat) (b : Int) (n_ : Int) (v5 : Int) (v6 : (List Bool)) (v7 : Int) : Option ((List Bool) × Bool) :=
  match n with
  | 0 => none
  | n + 1 => (bif (decide (v7 < n_)) then (Chk (appOK v6.length 1 1) (ref01_Unflag_L1 n b n_ (wU8 (v5.tdiv (2 : Int))) (v6 ++ ([((v5.tmod (2 : Int)) == (1 : Int))] : (List Bool))) (wI64 (v7 + (1 : Int))))) else (bif (decide (v5 > (0 : Int))) then (some (([] : (List Bool)), false)) else (some (v6, true))))
def ref01_Unflag (n : Nat) (b : Int) (n_ : Int) : Option ((List Bool) × Bool) :=
  (bif (decide (n_ < (0 : Int))) then (some (([] : (List Bool)), false)) else (bif (decide (n_ > (8 : Int))) then (some (([] : (List Bool)), false)) else (ref01_Unflag_L1 n b n_ b ([] : (List Bool)) (0 : Int))))
theorem t_ref01_Unflag {n : Nat} {b : Int} {n_ : Int} {r : ((List Bool) × Bool)} (hg : ref01_Unflag n b n_ = some r) : VF Pg 224 [(.d (eU8 b)), (.d (eI64 n_))] (single [(.d ((eL eB) r.1)), (.d (eB r.2))]) := by
  refine fn_ok (fn := Tryz.f224) (by kernel_rfl) rfl (by kernel_rfl) (Nat.le_of_ble_eq_true (by kernel_rfl)) fun B hB => ?_
  refine aw_seq ?_
  refine rg (Z := Zt) 0 0 [] [] [(0, (.d (eU8 b))), (1, (.d (eI64 n_)))] [] [] hmx (by kernel_rfl) good_nil ?_
  refine aw_seq ?_
  refine aw_seq ?_
  rcases Bool.eq_false_or_eq_true (decide (n_ < (0 : Int))) with h1 | h1
  · have hg := ite_t hg h1
    refine rg (Z := Zt) 0 0 [(2, .op (.val (.d (eB true))))] [.op (some (.val (.d (eB (decide (n_ < (0 : Int)))))))] [(0, (.d (eU8 b))), (1, (.d (eI64 n_))), (13, (.d (eB true)))] [] [] hmx (by kernel_rfl) (good_op (bo h1) good_nil) ?_
    refine cd_t rfl (by kernel_rfl) ?_
    refine aw_seq ?_
    refine rg (Z := Zt) 0 0 [] [] [(4, (.full (([] : (List Bool)).map eB))), (5, (.d (eB false)))] [] [] hmx (by kernel_rfl) good_nil ?_
    refine aw_ret ?_
    have hg := some_o hg
    subst hg
    exact lv_r [true, true] [] (by kernel_rfl)
  · have hg := ite_f hg h1
    refine rg (Z := Zt) 0 0 [(2, .op (.val (.d (eB false))))] [.op (some (.val (.d (eB (decide (n_ < (0 : Int)))))))] [(0, (.d (eU8 b))), (1, (.d (eI64 n_))), (13, (.d (eB (decide (n_ > (8 : Int))))))] [] [] hmx (by kernel_rfl) (good_op (bo h1) good_nil) ?_
    rcases Bool.eq_false_or_eq_true (decide (n_ > (8 : Int))) with h2 | h2
    · have hg := ite_t hg h2
      refine cd_t h2 (by kernel_rfl) ?_
      refine aw_seq ?_
      refine rg (Z := Zt) 0 0 [] [] [(4, (.full (([] : (List Bool)).map eB))), (5, (.d (eB false)))] [] [] hmx (by kernel_rfl) good_nil ?_
      refine aw_ret ?_
      have hg := some_o hg
      subst hg
      exact lv_r [true, true] [] (by kernel_rfl)
    · have hg := ite_f hg h2
      refine cd_f h2 (by kernel_rfl) ?_
      refine aw_skip ?_
      refine aw_seq ?_
      refine rg (Z := Zt) 0 0 [] [] [(0, (.d (eU8 b))), (1, (.d (eI64 n_))), (6, (.full (([] : (List Bool)).map eB)))] [] [] hmx (by kernel_rfl) good_nil ?_
      refine aw_seq ?_
      refine aw_seq ?_
      refine rg (Z := Zt) 0 0 [] [] [(0, (.d (eU8 b))), (1, (.d (eI64 n_))), (6, (.full (([] : (List Bool)).map eB))), (7, (.d (eI64 (0 : Int))))] [] [] hmx (by kernel_rfl) good_nil ?_
      refine aw_block ?_
      refine aw_loop (fun μ σ => ∃ (v5 : Int) (v6 : (List Bool)) (v7 : Int), μ ≤ n ∧ ref01_Unflag_L1 μ b n_ v5 v6 v7 = some r ∧ Wk B σ (st Tryz.f224.ntmps [(0, (.d (eU8 v5))), (1, (.d (eI64 n_))), (6, (.own (v6.map eB) 0)), (7, (.d (eI64 v7)))] [] [(some v6.length)])) n ⟨b, ([] : (List Bool)), (0 : Int), Nat.le_refl _, hg, (Wk.trans (wk_room 1) (wk_adopt (l := [(0, (.d (eU8 b))), (1, (.d (eI64 n_))), (6, (.own (([] : (List Bool)).map eB) 0)), (7, (.d (eI64 (0 : Int))))]) (k := [(some 0)]) 6 0 (([] : (List Bool)).map eB) (by kernel_rfl)))⟩ ?_
      rintro μ σ ⟨v5, v6, v7, hle, hg, hwk⟩
      refine aw_wk hwk ?_
      clear hwk
      cases μ with
      | zero => exact absurd (show none = some r from hg) (by simp)
      | succ n =>
        refine aw_seq ?_
        refine aw_seq ?_
        refine rg (Z := Zt) 0 0 [] [] [(0, (.d (eU8 v5))), (1, (.d (eI64 n_))), (6, (.own (v6.map eB) 0)), (7, (.d (eI64 v7))), (16, (.d (eB (decide (v7 < n_)))))] [] [(some v6.length)] hmx (by kernel_rfl) good_nil ?_
        rcases Bool.eq_false_or_eq_true (decide (v7 < n_)) with h11 | h11
        · have hg := ite_t hg h11
          refine cd_t h11 (by kernel_rfl) ?_
          refine aw_skip ?_
          refine aw_seq ?_
          refine aw_block ?_
          obtain ⟨h12, hg⟩ := chk_o hg
          refine rg (Z := Zt) 0 1 [(5, .op (.tok 0 (v6 ++ ([((v5.tmod (2 : Int)) == (1 : Int))] : (List Bool))).length (.own ((v6 ++ ([((v5.tmod (2 : Int)) == (1 : Int))] : (List Bool))).map eB) 0)))] [.op (evBuiltin Pg .append [124, 124] [(.own (v6.map eB) 0), (.full (([((v5.tmod (2 : Int)) == (1 : Int))] : (List Bool)).map eB))] [(some v6.length), none] 1)] [(0, (.d (eU8 (wU8 (v5.tdiv (2 : Int)))))), (1, (.d (eI64 n_))), (6, (.own ((v6 ++ ([((v5.tmod (2 : Int)) == (1 : Int))] : (List Bool))).map eB) 0)), (7, (.d (eI64 v7)))] [] [(some (v6 ++ ([((v5.tmod (2 : Int)) == (1 : Int))] : (List Bool))).length), none] hmx (by kernel_rfl) (good_op (app_own (s := 1) (b := false) (by_ := 1) (s' := 1) (b' := false) (y' := 1) (l := v6) (m := ([((v5.tmod (2 : Int)) == (1 : Int))] : (List Bool))) (f := eB) (by kernel_rfl) (by kernel_rfl) (by kernel_rfl) (by decide) (fun _ => rfl) rfl rfl h12) good_nil) ?_
          refine rg (Z := Zt) 0 0 [] [] [(0, (.d (eU8 (wU8 (v5.tdiv (2 : Int)))))), (1, (.d (eI64 n_))), (6, (.own ((v6 ++ ([((v5.tmod (2 : Int)) == (1 : Int))] : (List Bool))).map eB) 0)), (7, (.d (eI64 (wI64 (v7 + (1 : Int))))))] [] [(some (v6 ++ ([((v5.tmod (2 : Int)) == (1 : Int))] : (List Bool))).length), none] hmx (by kernel_rfl) good_nil ?_
          exact ⟨n, by omega, (wU8 (v5.tdiv (2 : Int))), (v6 ++ ([((v5.tmod (2 : Int)) == (1 : Int))] : (List Bool))), (wI64 (v7 + (1 : Int))), by omega, hg, (wk_cut (l := [(0, (.d (eU8 (wU8 (v5.tdiv (2 : Int)))))), (1, (.d (eI64 n_))), (6, (.own ((v6 ++ ([((v5.tmod (2 : Int)) == (1 : Int))] : (List Bool))).map eB) 0)), (7, (.d (eI64 (wI64 (v7 + (1 : Int))))))]) (h := []) (k := [(some (v6 ++ ([((v5.tmod (2 : Int)) == (1 : Int))] : (List Bool))).length)]) hB 0 1 (by kernel_rfl) (by kernel_rfl))⟩
        · have hg := ite_f hg h11
          refine cd_f h11 (by kernel_rfl) ?_
          refine aw_exit ?_
          refine aw_seq ?_
          refine aw_seq ?_
          refine rg (Z := Zt) 0 0 [] [] [(6, (.own (v6.map eB) 0)), (28, (.d (eB (decide (v5 > (0 : Int))))))] [] [(some v6.length)] hmx (by kernel_rfl) good_nil ?_
          rcases Bool.eq_false_or_eq_true (decide (v5 > (0 : Int))) with h13 | h13
          · have hg := ite_t hg h13
            refine cd_t h13 (by kernel_rfl) ?_
            refine aw_seq ?_
            refine rg (Z := Zt) 0 0 [] [] [(4, (.full (([] : (List Bool)).map eB))), (5, (.d (eB false)))] [] [(some v6.length)] hmx (by kernel_rfl) good_nil ?_
            refine aw_ret ?_
            have hg := some_o hg
            subst hg
            exact lv_r [true, true] [] (by kernel_rfl)
          · have hg := ite_f hg h13
            refine cd_f h13 (by kernel_rfl) ?_
            refine aw_skip ?_
            refine aw_seq ?_
            refine rg (Z := Zt) 0 0 [] [] [(4, (.own (v6.map eB) 0)), (5, (.d (eB true)))] [] [(some v6.length)] hmx (by kernel_rfl) good_nil ?_
            refine aw_ret ?_
            have hg := some_o hg
            subst hg
            exact lv_r [true, true] [] (by kernel_rfl)

/- ref01.get -/
def ref01_get_L1 (n : Nat) (s : Str) (size : Int) (v4 : Int) (v5 : Int) : Option (Int × Bool) :=
  match n with
  | 0 => none
  | n + 1 => (bif (decide (v5 < size)) then (Chk (inR v5 s.length) (ref01_get_L1 n s size (wU64 ((wU64 (v4 * (256 : Int))) + (wU64 (bt s v5)))) (wI64 (v5 + (1 : Int))))) else (some (v4, true)))
def ref01_get (n : Nat) (s : Str) (size : Int) : Option (Int × Bool) :=
  (bif ((s.length : Int) != size) then (some ((0 : Int), false)) else (ref01_get_L1 n s size (0 : Int) (0 : Int)))
theorem t_ref01_get {n : Nat} {s : Str} {size : Int} {r : (Int × Bool)} (hg : ref01_get n s size = some r) : VF Pg 223 [(.d (eS s)), (.d (eI64 size))] (single [(.d (eU64 r.1)), (.d (eB r.2))]) := by
  refine fn_ok (fn := Tryz.f223) (by kernel_rfl) rfl (by kernel_rfl) (Nat.le_of_ble_eq_true (by kernel_rfl)) fun B hB => ?_
  refine aw_seq ?_
  refine rg (Z := Zt) 0 0 [] [] [(0, (.d (eS s))), (1, (.d (eI64 size)))] [] [] hmx (by kernel_rfl) good_nil ?_
  refine aw_seq ?_
  refine aw_seq ?_
  refine rg (Z := Zt) 0 0 [] [] [(0, (.d (eS s))), (1, (.d (eI64 size))), (11, (.d (eB ((s.length : Int) != size))))] [] [] hmx (by kernel_rfl) good_nil ?_
  rcases Bool.eq_false_or_eq_true ((s.length : Int) != size) with h1 | h1
  · have hg := ite_t hg h1
    refine cd_t h1 (by kernel_rfl) ?_
    refine aw_seq ?_
    refine rg (Z := Zt) 0 0 [] [] [(4, (.d (eU64 (0 : Int)))), (5, (.d (eB false)))] [] [] hmx (by kernel_rfl) good_nil ?_
    refine aw_ret ?_
    have hg := some_o hg
    subst hg
    exact lv_r [true, true] [] (by kernel_rfl)
  · have hg := ite_f hg h1
    refine cd_f h1 (by kernel_rfl) ?_
    refine aw_skip ?_
    refine aw_seq ?_
    refine rg (Z := Zt) 0 0 [] [] [(0, (.d (eS s))), (1, (.d (eI64 size))), (6, (.d (eU64 (0 : Int))))] [] [] hmx (by kernel_rfl) good_nil ?_
    refine aw_seq ?_
    refine aw_seq ?_
    refine rg (Z := Zt) 0 0 [] [] [(0, (.d (eS s))), (1, (.d (eI64 size))), (6, (.d (eU64 (0 : Int)))), (7, (.d (eI64 (0 : Int))))] [] [] hmx (by kernel_rfl) good_nil ?_
    refine aw_block ?_
    refine aw_loop (fun μ σ => ∃ (v4 : Int) (v5 : Int), μ ≤ n ∧ ref01_get_L1 μ s size v4 v5 = some r ∧ Wk B σ (st Tryz.f223.ntmps [(0, (.d (eS s))), (1, (.d (eI64 size))), (6, (.d (eU64 v4))), (7, (.d (eI64 v5)))] [] [])) n ⟨(0 : Int), (0 : Int), Nat.le_refl _, hg, (Wk.refl _)⟩ ?_
    rintro μ σ ⟨v4, v5, hle, hg, hwk⟩
    refine aw_wk hwk ?_
    clear hwk
    cases μ with
    | zero => exact absurd (show none = some r from hg) (by simp)
    | succ n =>
      refine aw_seq ?_
      refine aw_seq ?_
      refine rg (Z := Zt) 0 0 [] [] [(0, (.d (eS s))), (1, (.d (eI64 size))), (6, (.d (eU64 v4))), (7, (.d (eI64 v5))), (14, (.d (eB (decide (v5 < size)))))] [] [] hmx (by kernel_rfl) good_nil ?_
      rcases Bool.eq_false_or_eq_true (decide (v5 < size)) with h8 | h8
      · have hg := ite_t hg h8
        refine cd_t h8 (by kernel_rfl) ?_
        refine aw_skip ?_
        refine aw_seq ?_
        refine aw_block ?_
        obtain ⟨h9, hg⟩ := chk_o hg
        refine rg (Z := Zt) 0 0 [(4, .op (.val (.d (eU8 (bt s v5)))))] [.op (xIdx Pg 9 (.d (eS s)) (.d (eI64 v5)))] [(0, (.d (eS s))), (1, (.d (eI64 size))), (6, (.d (eU64 (wU64 ((wU64 (v4 * (256 : Int))) + (wU64 (bt s v5))))))), (7, (.d (eI64 v5)))] [] [] hmx (by kernel_rfl) (good_op (idx_str (by kernel_rfl) h9) good_nil) ?_
        refine rg (Z := Zt) 0 0 [] [] [(0, (.d (eS s))), (1, (.d (eI64 size))), (6, (.d (eU64 (wU64 ((wU64 (v4 * (256 : Int))) + (wU64 (bt s v5))))))), (7, (.d (eI64 (wI64 (v5 + (1 : Int))))))] [] [] hmx (by kernel_rfl) good_nil ?_
        exact ⟨n, by omega, (wU64 ((wU64 (v4 * (256 : Int))) + (wU64 (bt s v5)))), (wI64 (v5 + (1 : Int))), by omega, hg, (Wk.refl _)⟩
      · have hg := ite_f hg h8
        refine cd_f h8 (by kernel_rfl) ?_
        refine aw_exit ?_
        refine aw_seq ?_
        refine rg (Z := Zt) 0 0 [] [] [(4, (.d (eU64 v4))), (5, (.d (eB true)))] [] [] hmx (by kernel_rfl) good_nil ?_
        refine aw_ret ?_
        have hg := some_o hg
        subst hg
        exact lv_r [true, true] [] (by kernel_rfl)

/- ref01.Get64 -/
def ref01_Get64 (n : Nat) (s : Str) : Option (Int × Bool) :=
  (Bnd (ref01_get n s (8 : Int)) fun x1 => (some (x1.1, x1.2)))
theorem t_ref01_Get64 {n : Nat} {s : Str} {r : (Int × Bool)} (hg : ref01_Get64 n s = some r) : VF Pg 160 [(.d (eS s))] (single [(.d (eU64 r.1)), (.d (eB r.2))]) := by
  refine fn_ok (fn := Tryz.f160) (by kernel_rfl) rfl (by kernel_rfl) (Nat.le_of_ble_eq_true (by kernel_rfl)) fun B hB => ?_
  refine aw_seq ?_
  refine rg (Z := Zt) 0 0 [] [] [(0, (.d (eS s)))] [] [] hmx (by kernel_rfl) good_nil ?_
  refine aw_seq ?_
  obtain ⟨x1, h2, hg⟩ := bnd_o hg
  refine rg (Z := Zt) 0 0 [(1, .vf (.tup [(.d (eU64 x1.1)), (.d (eB x1.2))]))] [.vf 223 [(.d (eS s)), (.d (eI64 (8 : Int)))]] [(2, (.d (eU64 x1.1))), (3, (.d (eB x1.2)))] [] [] hmx (by kernel_rfl) (good_vf (t_ref01_get h2) rfl rfl good_nil) ?_
  refine aw_ret ?_
  have hg := some_o hg
  subst hg
  exact lv_r [true, true] [] (by kernel_rfl)
end Go.Am
