/- Printed by geng.py: functions of the program as Lean functions, with the proofs that the code comes to them. -/
import Derived.Test.YtbhgeilmhknnaaaGreatDoorAmF1
namespace Go.Am
open Go.Proofs
set_option maxRecDepth 100000
/- ref06.number -/
def ref06_number (n : Nat) (b : Str) (at_ : Int) : Option Int :=
  (Chk (hiOK (wI64 (at_ + (8 : Int))) b.length && hiOK at_ (wI64 (at_ + (8 : Int))).toNat) (Bnd (ref01_Get64 n (cut b at_ (wI64 (at_ + (8 : Int))))) fun x2 => (some x2.1)))
theorem t_ref06_number {n : Nat} {b : Str} {at_ : Int} {r : Int} (hg : ref06_number n b at_ = some r) : VF Pg 262 [(.d (eS b)), (.d (eI64 at_))] (single [(.d (eU64 r))]) := by
  refine fn_ok (fn := Tryz.f262) (by kernel_rfl) rfl (by kernel_rfl) (Nat.le_of_ble_eq_true (by kernel_rfl)) fun B hB => ?_
  refine aw_seq ?_
  refine rg (Z := Zt) 0 0 [] [] [(0, (.d (eS b))), (1, (.d (eI64 at_)))] [] [] hmx (by kernel_rfl) good_nil ?_
  refine aw_seq ?_
  obtain ⟨h1, hg⟩ := chk_o hg
  obtain ⟨x2, h3, hg⟩ := bnd_o hg
  refine rg (Z := Zt) 0 0 [(4, .op (.val (.d (eS (cut b at_ (wI64 (at_ + (8 : Int)))))))), (5, .vf (.tup [(.d (eU64 x2.1)), (.d (eB x2.2))]))] [.op (evSlice Pg 9 (.d (eS b)) (some (.d (eI64 at_))) (some (.d (eI64 (wI64 (at_ + (8 : Int)))))) none []), .vf 160 [(.d (eS (cut b at_ (wI64 (at_ + (8 : Int))))))]] [(5, (.d (eU64 x2.1)))] [] [] hmx (by kernel_rfl) (good_op (sub_str (by kernel_rfl) (an1 h1) (an2 h1)) (good_vf (t_ref01_Get64 h3) rfl rfl good_nil)) ?_
  refine aw_seq ?_
  refine rg (Z := Zt) 0 0 [] [] [(4, (.d (eU64 x2.1)))] [] [] hmx (by kernel_rfl) good_nil ?_
  refine aw_ret ?_
  have hg := some_o hg
  subst hg
  exact lv_r [true] [] (by kernel_rfl)

/- ref06.Decode -/
def ref06_Decode (n : Nat) (b : Str) : Option (Super × Int) :=
  (Bnd (ref02_Open n b) fun x1 => (bif (x1.2 != (0 : Int)) then (some ((Super.mk (0 : Int) (Vector.mk (0 : Int) (0 : Int) (A2.mk (0 : Int) (0 : Int))) false false false), x1.2)) else (bif ((x1.1.length : Int) != (37 : Int)) then (some ((Super.mk (0 : Int) (Vector.mk (0 : Int) (0 : Int) (A2.mk (0 : Int) (0 : Int))) false false false), (2 : Int))) else (Chk (inR (4 : Int) x1.1.length) (bif (decide ((bt x1.1 (4 : Int)) > (7 : Int))) then (some ((Super.mk (0 : Int) (Vector.mk (0 : Int) (0 : Int) (A2.mk (0 : Int) (0 : Int))) false false false), (2 : Int))) else (Bnd (ref01_Unflag n (bt x1.1 (4 : Int)) (3 : Int)) fun x7 => (Chk (inR (3 : Int) x1.1.length) (Bnd (ref06_number n x1.1 (5 : Int)) fun x10 => (Bnd (ref06_number n x1.1 (13 : Int)) fun x12 => (Bnd (ref06_number n x1.1 (21 : Int)) fun x14 => (Bnd (ref06_number n x1.1 (29 : Int)) fun x16 => (Chk (inR (0 : Int) x7.1.length) (Chk (inR (1 : Int) x7.1.length) (Chk (inR (2 : Int) x7.1.length) (Let (ref06_Right (Super.mk (wI64 (bt x1.1 (3 : Int))) (Vector.mk x10 x12 (A2.mk x14 x16)) (gt x7.1 (0 : Int)) (gt x7.1 (1 : Int)) (gt x7.1 (2 : Int)))) fun x21 => (bif (!x21) then (some ((Super.mk (0 : Int) (Vector.mk (0 : Int) (0 : Int) (A2.mk (0 : Int) (0 : Int))) false false false), (2 : Int))) else (Bnd (ref06_bytes n (Super.mk (wI64 (bt x1.1 (3 : Int))) (Vector.mk x10 x12 (A2.mk x14 x16)) (gt x7.1 (0 : Int)) (gt x7.1 (1 : Int)) (gt x7.1 (2 : Int)))) fun x24 => (bif (!(x24 == x1.1)) then (some ((Super.mk (0 : Int) (Vector.mk (0 : Int) (0 : Int) (A2.mk (0 : Int) (0 : Int))) false false false), (2 : Int))) else (some ((Super.mk (wI64 (bt x1.1 (3 : Int))) (Vector.mk x10 x12 (A2.mk x14 x16)) (gt x7.1 (0 : Int)) (gt x7.1 (1 : Int)) (gt x7.1 (2 : Int))), (0 : Int)))))))))))))))))))))
theorem t_ref06_Decode {n : Nat} {b : Str} {r : (Super × Int)} (hg : ref06_Decode n b = some r) : VF Pg 193 [(.d (eS b))] (single [(.d (eSuper r.1)), (.d (eI64 r.2))]) := by
  refine fn_ok (fn := Tryz.f193) (by kernel_rfl) rfl (by kernel_rfl) (Nat.le_of_ble_eq_true (by kernel_rfl)) fun B hB => ?_
  refine aw_seq ?_
  refine rg (Z := Zt) 1 0 [] [] [(0, (.d (eS b))), (2, (.ptr 0 0))] [(.var (.agg [(.d (eI64 (0 : Int))), (.agg [(.d (eU64 (0 : Int))), (.d (eU64 (0 : Int))), (.agg [(.d (eU64 (0 : Int))), (.d (eU64 (0 : Int)))])]), (.d (eB false)), (.d (eB false)), (.d (eB false))]))] [] hmx (by kernel_rfl) good_nil ?_
  refine aw_seq ?_
  obtain ⟨x1, h2, hg⟩ := bnd_o hg
  refine rg (Z := Zt) 0 0 [(1, .vf (.tup [(.d (eS x1.1)), (.d (eI64 x1.2))]))] [.vf 159 [(.d (eS b))]] [(2, (.ptr 0 0)), (4, (.d (eS x1.1))), (5, (.d (eI64 x1.2)))] [(.var (.agg [(.d (eI64 (0 : Int))), (.agg [(.d (eU64 (0 : Int))), (.d (eU64 (0 : Int))), (.agg [(.d (eU64 (0 : Int))), (.d (eU64 (0 : Int)))])]), (.d (eB false)), (.d (eB false)), (.d (eB false))]))] [] hmx (by kernel_rfl) (good_vf (t_ref02_Open h2) rfl rfl good_nil) ?_
  refine aw_seq ?_
  refine aw_seq ?_
  refine rg (Z := Zt) 0 0 [] [] [(2, (.ptr 0 0)), (4, (.d (eS x1.1))), (5, (.d (eI64 x1.2))), (15, (.d (eB (x1.2 != (0 : Int)))))] [(.var (.agg [(.d (eI64 (0 : Int))), (.agg [(.d (eU64 (0 : Int))), (.d (eU64 (0 : Int))), (.agg [(.d (eU64 (0 : Int))), (.d (eU64 (0 : Int)))])]), (.d (eB false)), (.d (eB false)), (.d (eB false))]))] [] hmx (by kernel_rfl) good_nil ?_
  rcases Bool.eq_false_or_eq_true (x1.2 != (0 : Int)) with h3 | h3
  · have hg := ite_t hg h3
    refine cd_t h3 (by kernel_rfl) ?_
    refine aw_seq ?_
    refine rg (Z := Zt) 0 0 [] [] [(2, (.ptr 0 0)), (3, (.d (eI64 x1.2)))] [(.var (.agg [(.d (eI64 (0 : Int))), (.agg [(.d (eU64 (0 : Int))), (.d (eU64 (0 : Int))), (.agg [(.d (eU64 (0 : Int))), (.d (eU64 (0 : Int)))])]), (.d (eB false)), (.d (eB false)), (.d (eB false))]))] [] hmx (by kernel_rfl) good_nil ?_
    refine aw_ret ?_
    have hg := some_o hg
    subst hg
    exact lv_r [true, true] [] (by kernel_rfl)
  · have hg := ite_f hg h3
    refine cd_f h3 (by kernel_rfl) ?_
    refine aw_skip ?_
    refine aw_seq ?_
    refine aw_seq ?_
    rcases Bool.eq_false_or_eq_true ((x1.1.length : Int) != (37 : Int)) with h4 | h4
    · have hg := ite_t hg h4
      refine rg (Z := Zt) 0 0 [(3, .op (.val (.d (eB true))))] [.op (some (.val (.d (eB ((x1.1.length : Int) != (37 : Int))))))] [(2, (.ptr 0 0)), (4, (.d (eS x1.1))), (25, (.d (eB true)))] [(.var (.agg [(.d (eI64 (0 : Int))), (.agg [(.d (eU64 (0 : Int))), (.d (eU64 (0 : Int))), (.agg [(.d (eU64 (0 : Int))), (.d (eU64 (0 : Int)))])]), (.d (eB false)), (.d (eB false)), (.d (eB false))]))] [] hmx (by kernel_rfl) (good_op (bo h4) good_nil) ?_
      refine cd_t rfl (by kernel_rfl) ?_
      refine aw_seq ?_
      refine rg (Z := Zt) 0 0 [] [] [(2, (.ptr 0 0)), (3, (.d (eI64 (2 : Int))))] [(.var (.agg [(.d (eI64 (0 : Int))), (.agg [(.d (eU64 (0 : Int))), (.d (eU64 (0 : Int))), (.agg [(.d (eU64 (0 : Int))), (.d (eU64 (0 : Int)))])]), (.d (eB false)), (.d (eB false)), (.d (eB false))]))] [] hmx (by kernel_rfl) good_nil ?_
      refine aw_ret ?_
      have hg := some_o hg
      subst hg
      exact lv_r [true, true] [] (by kernel_rfl)
    · have hg := ite_f hg h4
      obtain ⟨h5, hg⟩ := chk_o hg
      refine rg (Z := Zt) 0 0 [(3, .op (.val (.d (eB false)))), (5, .op (.val (.d (eU8 (bt x1.1 (4 : Int))))))] [.op (some (.val (.d (eB ((x1.1.length : Int) != (37 : Int)))))), .op (xIdx Pg 9 (.d (eS x1.1)) (.d (eI64 (4 : Int))))] [(2, (.ptr 0 0)), (4, (.d (eS x1.1))), (25, (.d (eB (decide ((bt x1.1 (4 : Int)) > (7 : Int))))))] [(.var (.agg [(.d (eI64 (0 : Int))), (.agg [(.d (eU64 (0 : Int))), (.d (eU64 (0 : Int))), (.agg [(.d (eU64 (0 : Int))), (.d (eU64 (0 : Int)))])]), (.d (eB false)), (.d (eB false)), (.d (eB false))]))] [] hmx (by kernel_rfl) (good_op (bo h4) (good_op (idx_str (by kernel_rfl) h5) good_nil)) ?_
      rcases Bool.eq_false_or_eq_true (decide ((bt x1.1 (4 : Int)) > (7 : Int))) with h6 | h6
      · have hg := ite_t hg h6
        refine cd_t h6 (by kernel_rfl) ?_
        refine aw_seq ?_
        refine rg (Z := Zt) 0 0 [] [] [(2, (.ptr 0 0)), (3, (.d (eI64 (2 : Int))))] [(.var (.agg [(.d (eI64 (0 : Int))), (.agg [(.d (eU64 (0 : Int))), (.d (eU64 (0 : Int))), (.agg [(.d (eU64 (0 : Int))), (.d (eU64 (0 : Int)))])]), (.d (eB false)), (.d (eB false)), (.d (eB false))]))] [] hmx (by kernel_rfl) good_nil ?_
        refine aw_ret ?_
        have hg := some_o hg
        subst hg
        exact lv_r [true, true] [] (by kernel_rfl)
      · have hg := ite_f hg h6
        refine cd_f h6 (by kernel_rfl) ?_
        refine aw_skip ?_
        refine aw_seq ?_
        obtain ⟨x7, h8, hg⟩ := bnd_o hg
        refine rg (Z := Zt) 0 0 [(1, .op (.val (.d (eU8 (bt x1.1 (4 : Int)))))), (2, .vf (.tup [(.d ((eL eB) x7.1)), (.d (eB x7.2))]))] [.op (xIdx Pg 9 (.d (eS x1.1)) (.d (eI64 (4 : Int)))), .vf 224 [(.d (eU8 (bt x1.1 (4 : Int)))), (.d (eI64 (3 : Int)))]] [(2, (.ptr 0 0)), (4, (.d (eS x1.1))), (6, (.d ((eL eB) x7.1)))] [(.var (.agg [(.d (eI64 (0 : Int))), (.agg [(.d (eU64 (0 : Int))), (.d (eU64 (0 : Int))), (.agg [(.d (eU64 (0 : Int))), (.d (eU64 (0 : Int)))])]), (.d (eB false)), (.d (eB false)), (.d (eB false))]))] [] hmx (by kernel_rfl) (good_op (idx_str (by kernel_rfl) h5) (good_vf (t_ref01_Unflag h8) rfl rfl good_nil)) ?_
        refine aw_seq ?_
        obtain ⟨h9, hg⟩ := chk_o hg
        obtain ⟨x10, h11, hg⟩ := bnd_o hg
        obtain ⟨x12, h13, hg⟩ := bnd_o hg
        obtain ⟨x14, h15, hg⟩ := bnd_o hg
        obtain ⟨x16, h17, hg⟩ := bnd_o hg
        obtain ⟨h18, hg⟩ := chk_o hg
        obtain ⟨h19, hg⟩ := chk_o hg
        obtain ⟨h20, hg⟩ := chk_o hg
        refine rg (Z := Zt) 1 0 [(1, .op (.val (.d (eU8 (bt x1.1 (3 : Int)))))), (4, .vf (.d (eU64 x10))), (6, .vf (.d (eU64 x12))), (8, .vf (.d (eU64 x14))), (10, .vf (.d (eU64 x16))), (14, .op (.val (.kp (eB (gt x7.1 (0 : Int)))))), (17, .op (.val (.kp (eB (gt x7.1 (1 : Int)))))), (20, .op (.val (.kp (eB (gt x7.1 (2 : Int))))))] [.op (xIdx Pg 9 (.d (eS x1.1)) (.d (eI64 (3 : Int)))), .vf 262 [(.d (eS x1.1)), (.d (eI64 (5 : Int)))], .vf 262 [(.d (eS x1.1)), (.d (eI64 (13 : Int)))], .vf 262 [(.d (eS x1.1)), (.d (eI64 (21 : Int)))], .vf 262 [(.d (eS x1.1)), (.d (eI64 (29 : Int)))], .op (xIdA Pg 124 (.d ((eL eB) x7.1)) (.d (eI64 (0 : Int)))), .op (xIdA Pg 124 (.d ((eL eB) x7.1)) (.d (eI64 (1 : Int)))), .op (xIdA Pg 124 (.d ((eL eB) x7.1)) (.d (eI64 (2 : Int))))] [(2, (.ptr 0 0)), (4, (.d (eS x1.1))), (8, (.ptr 1 0))] [(.var (.agg [(.d (eI64 (0 : Int))), (.agg [(.d (eU64 (0 : Int))), (.d (eU64 (0 : Int))), (.agg [(.d (eU64 (0 : Int))), (.d (eU64 (0 : Int)))])]), (.d (eB false)), (.d (eB false)), (.d (eB false))])), (.var (.agg [(.d (eI64 (wI64 (bt x1.1 (3 : Int))))), (.agg [(.d (eU64 x10)), (.d (eU64 x12)), (.agg [(.d (eU64 x14)), (.d (eU64 x16))])]), (.d (eB (gt x7.1 (0 : Int)))), (.d (eB (gt x7.1 (1 : Int)))), (.d (eB (gt x7.1 (2 : Int))))]))] [] hmx (by kernel_rfl) (good_op (idx_str (by kernel_rfl) h9) (good_vf (t_ref06_number h11) rfl rfl (good_vf (t_ref06_number h13) rfl rfl (good_vf (t_ref06_number h15) rfl rfl (good_vf (t_ref06_number h17) rfl rfl (good_op (idx_d (s := 1) (b := false) (by_ := 1) (by kernel_rfl) (fun _ => rfl) h18) (good_op (idx_d (s := 1) (b := false) (by_ := 1) (by kernel_rfl) (fun _ => rfl) h19) (good_op (idx_d (s := 1) (b := false) (by_ := 1) (by kernel_rfl) (fun _ => rfl) h20) good_nil)))))))) ?_
        refine aw_seq ?_
        refine aw_seq ?_
        obtain ⟨x21, h22, hg⟩ := let_o hg
        rcases Bool.eq_false_or_eq_true (!x21) with h23 | h23
        · have hg := ite_t hg h23
          refine rg (Z := Zt) 0 0 [(1, .vf (.d (eB x21))), (3, .op (.val (.d (eB true))))] [.vf 189 [(.d (eSuper (Super.mk (wI64 (bt x1.1 (3 : Int))) (Vector.mk x10 x12 (A2.mk x14 x16)) (gt x7.1 (0 : Int)) (gt x7.1 (1 : Int)) (gt x7.1 (2 : Int)))))], .op (some (.val (.d (eB (!x21)))))] [(2, (.ptr 0 0)), (8, (.ptr 1 0)), (64, (.d (eB true)))] [(.var (.agg [(.d (eI64 (0 : Int))), (.agg [(.d (eU64 (0 : Int))), (.d (eU64 (0 : Int))), (.agg [(.d (eU64 (0 : Int))), (.d (eU64 (0 : Int)))])]), (.d (eB false)), (.d (eB false)), (.d (eB false))])), (.var (.agg [(.d (eI64 (wI64 (bt x1.1 (3 : Int))))), (.agg [(.d (eU64 x10)), (.d (eU64 x12)), (.agg [(.d (eU64 x14)), (.d (eU64 x16))])]), (.d (eB (gt x7.1 (0 : Int)))), (.d (eB (gt x7.1 (1 : Int)))), (.d (eB (gt x7.1 (2 : Int))))]))] [] hmx (by kernel_rfl) (good_vf (t_ref06_Right h22) rfl rfl (good_op (bo h23) good_nil)) ?_
          refine cd_t rfl (by kernel_rfl) ?_
          refine aw_seq ?_
          refine rg (Z := Zt) 0 0 [] [] [(2, (.ptr 0 0)), (3, (.d (eI64 (2 : Int))))] [(.var (.agg [(.d (eI64 (0 : Int))), (.agg [(.d (eU64 (0 : Int))), (.d (eU64 (0 : Int))), (.agg [(.d (eU64 (0 : Int))), (.d (eU64 (0 : Int)))])]), (.d (eB false)), (.d (eB false)), (.d (eB false))])), (.var (.agg [(.d (eI64 (wI64 (bt x1.1 (3 : Int))))), (.agg [(.d (eU64 x10)), (.d (eU64 x12)), (.agg [(.d (eU64 x14)), (.d (eU64 x16))])]), (.d (eB (gt x7.1 (0 : Int)))), (.d (eB (gt x7.1 (1 : Int)))), (.d (eB (gt x7.1 (2 : Int))))]))] [] hmx (by kernel_rfl) good_nil ?_
          refine aw_ret ?_
          have hg := some_o hg
          subst hg
          exact lv_r [true, true] [] (by kernel_rfl)
        · have hg := ite_f hg h23
          obtain ⟨x24, h25, hg⟩ := bnd_o hg
          refine rg (Z := Zt) 0 0 [(1, .vf (.d (eB x21))), (3, .op (.val (.d (eB false)))), (5, .vf (.d (eS x24)))] [.vf 189 [(.d (eSuper (Super.mk (wI64 (bt x1.1 (3 : Int))) (Vector.mk x10 x12 (A2.mk x14 x16)) (gt x7.1 (0 : Int)) (gt x7.1 (1 : Int)) (gt x7.1 (2 : Int)))))], .op (some (.val (.d (eB (!x21))))), .vf 190 [(.d (eSuper (Super.mk (wI64 (bt x1.1 (3 : Int))) (Vector.mk x10 x12 (A2.mk x14 x16)) (gt x7.1 (0 : Int)) (gt x7.1 (1 : Int)) (gt x7.1 (2 : Int)))))]] [(2, (.ptr 0 0)), (8, (.ptr 1 0)), (64, (.d (eB (!(x24 == x1.1)))))] [(.var (.agg [(.d (eI64 (0 : Int))), (.agg [(.d (eU64 (0 : Int))), (.d (eU64 (0 : Int))), (.agg [(.d (eU64 (0 : Int))), (.d (eU64 (0 : Int)))])]), (.d (eB false)), (.d (eB false)), (.d (eB false))])), (.var (.agg [(.d (eI64 (wI64 (bt x1.1 (3 : Int))))), (.agg [(.d (eU64 x10)), (.d (eU64 x12)), (.agg [(.d (eU64 x14)), (.d (eU64 x16))])]), (.d (eB (gt x7.1 (0 : Int)))), (.d (eB (gt x7.1 (1 : Int)))), (.d (eB (gt x7.1 (2 : Int))))]))] [] hmx (by kernel_rfl) (good_vf (t_ref06_Right h22) rfl rfl (good_op (bo h23) (good_vf (t_ref06_bytes h25) rfl rfl good_nil))) ?_
          rcases Bool.eq_false_or_eq_true (!(x24 == x1.1)) with h26 | h26
          · have hg := ite_t hg h26
            refine cd_t h26 (by kernel_rfl) ?_
            refine aw_seq ?_
            refine rg (Z := Zt) 0 0 [] [] [(2, (.ptr 0 0)), (3, (.d (eI64 (2 : Int))))] [(.var (.agg [(.d (eI64 (0 : Int))), (.agg [(.d (eU64 (0 : Int))), (.d (eU64 (0 : Int))), (.agg [(.d (eU64 (0 : Int))), (.d (eU64 (0 : Int)))])]), (.d (eB false)), (.d (eB false)), (.d (eB false))])), (.var (.agg [(.d (eI64 (wI64 (bt x1.1 (3 : Int))))), (.agg [(.d (eU64 x10)), (.d (eU64 x12)), (.agg [(.d (eU64 x14)), (.d (eU64 x16))])]), (.d (eB (gt x7.1 (0 : Int)))), (.d (eB (gt x7.1 (1 : Int)))), (.d (eB (gt x7.1 (2 : Int))))]))] [] hmx (by kernel_rfl) good_nil ?_
            refine aw_ret ?_
            have hg := some_o hg
            subst hg
            exact lv_r [true, true] [] (by kernel_rfl)
          · have hg := ite_f hg h26
            refine cd_f h26 (by kernel_rfl) ?_
            refine aw_skip ?_
            refine aw_seq ?_
            refine rg (Z := Zt) 0 0 [] [] [(2, (.ptr 0 0)), (3, (.d (eI64 (0 : Int))))] [(.var (.agg [(.d (eI64 (wI64 (bt x1.1 (3 : Int))))), (.agg [(.d (eU64 x10)), (.d (eU64 x12)), (.agg [(.d (eU64 x14)), (.d (eU64 x16))])]), (.d (eB (gt x7.1 (0 : Int)))), (.d (eB (gt x7.1 (1 : Int)))), (.d (eB (gt x7.1 (2 : Int))))])), (.var (.agg [(.d (eI64 (wI64 (bt x1.1 (3 : Int))))), (.agg [(.d (eU64 x10)), (.d (eU64 x12)), (.agg [(.d (eU64 x14)), (.d (eU64 x16))])]), (.d (eB (gt x7.1 (0 : Int)))), (.d (eB (gt x7.1 (1 : Int)))), (.d (eB (gt x7.1 (2 : Int))))]))] [] hmx (by kernel_rfl) good_nil ?_
            refine aw_ret ?_
            have hg := some_o hg
            subst hg
            exact lv_r [true, true] [] (by kernel_rfl)

/- ref07.Fits -/
def ref07_Fits (d : Disk) (s : Super) : Bool :=
  ((wI64 ((d.sure.length : Int) - (2 : Int))) == s.blocks)
theorem t_ref07_Fits {d : Disk} {s : Super} {r : Bool} (hg : ref07_Fits d s = r) : VF Pg 194 [(.d (eDisk d)), (.d (eSuper s))] (single [(.d (eB r))]) := by
  refine fn_ok (fn := Tryz.f194) (by kernel_rfl) rfl (by kernel_rfl) (Nat.le_of_ble_eq_true (by kernel_rfl)) fun B hB => ?_
  refine aw_seq ?_
  refine rg (Z := Zt) 2 0 [] [] [(2, (.ptr 0 0)), (3, (.ptr 1 0))] [(.var (.d (eDisk d))), (.var (.d (eSuper s)))] [] hmx (by kernel_rfl) good_nil ?_
  refine aw_seq ?_
  refine rg (Z := Zt) 0 0 [(2, .op (.val (.d (eI64 (d.sure.length : Int)))))] [.op (xLen Pg 25 (.d ((eL eS) d.sure)))] [(4, (.d (eB ((wI64 ((d.sure.length : Int) - (2 : Int))) == s.blocks))))] [(.var (.d (eDisk d))), (.var (.d (eSuper s)))] [] hmx (by kernel_rfl) (good_op (len_d (e := 9) (by kernel_rfl)) good_nil) ?_
  refine aw_ret ?_
  subst hg
  exact lv_r [true] [] (by kernel_rfl)

/- ref07.Load -/
def ref07_Load (n : Nat) (d : Disk) : Option (Super × Int) :=
  (Bnd (ref04_Read n d (0 : Int)) fun x1 => (bif (x1.2 != (0 : Int)) then (some ((Super.mk (0 : Int) (Vector.mk (0 : Int) (0 : Int) (A2.mk (0 : Int) (0 : Int))) false false false), x1.2)) else (Bnd (ref06_Decode n x1.1) fun x4 => (bif (x4.2 != (0 : Int)) then (some ((Super.mk (0 : Int) (Vector.mk (0 : Int) (0 : Int) (A2.mk (0 : Int) (0 : Int))) false false false), x4.2)) else (Let (ref07_Fits d x4.1) fun x7 => (bif (!x7) then (some ((Super.mk (0 : Int) (Vector.mk (0 : Int) (0 : Int) (A2.mk (0 : Int) (0 : Int))) false false false), (2 : Int))) else (some (x4.1, (0 : Int)))))))))
theorem t_ref07_Load {n : Nat} {d : Disk} {r : (Super × Int)} (hg : ref07_Load n d = some r) : VF Pg 129 [(.d (eDisk d))] (single [(.d (eSuper r.1)), (.d (eI64 r.2))]) := by
  refine fn_ok (fn := Tryz.f129) (by kernel_rfl) rfl (by kernel_rfl) (Nat.le_of_ble_eq_true (by kernel_rfl)) fun B hB => ?_
  refine aw_seq ?_
  refine rg (Z := Zt) 2 0 [] [] [(1, (.ptr 0 0)), (2, (.ptr 1 0))] [(.var (.d (eDisk d))), (.var (.agg [(.d (eI64 (0 : Int))), (.agg [(.d (eU64 (0 : Int))), (.d (eU64 (0 : Int))), (.agg [(.d (eU64 (0 : Int))), (.d (eU64 (0 : Int)))])]), (.d (eB false)), (.d (eB false)), (.d (eB false))]))] [] hmx (by kernel_rfl) good_nil ?_
  refine aw_seq ?_
  obtain ⟨x1, h2, hg⟩ := bnd_o hg
  refine rg (Z := Zt) 0 0 [(1, .vf (.tup [(.d (eS x1.1)), (.d (eI64 x1.2))]))] [.vf 185 [(.d (eDisk d)), (.d (eI64 (0 : Int)))]] [(1, (.ptr 0 0)), (2, (.ptr 1 0)), (4, (.d (eS x1.1))), (5, (.d (eI64 x1.2)))] [(.var (.d (eDisk d))), (.var (.agg [(.d (eI64 (0 : Int))), (.agg [(.d (eU64 (0 : Int))), (.d (eU64 (0 : Int))), (.agg [(.d (eU64 (0 : Int))), (.d (eU64 (0 : Int)))])]), (.d (eB false)), (.d (eB false)), (.d (eB false))]))] [] hmx (by kernel_rfl) (good_vf (t_ref04_Read h2) rfl rfl good_nil) ?_
  refine aw_seq ?_
  refine aw_seq ?_
  refine rg (Z := Zt) 0 0 [] [] [(1, (.ptr 0 0)), (2, (.ptr 1 0)), (4, (.d (eS x1.1))), (5, (.d (eI64 x1.2))), (13, (.d (eB (x1.2 != (0 : Int)))))] [(.var (.d (eDisk d))), (.var (.agg [(.d (eI64 (0 : Int))), (.agg [(.d (eU64 (0 : Int))), (.d (eU64 (0 : Int))), (.agg [(.d (eU64 (0 : Int))), (.d (eU64 (0 : Int)))])]), (.d (eB false)), (.d (eB false)), (.d (eB false))]))] [] hmx (by kernel_rfl) good_nil ?_
  rcases Bool.eq_false_or_eq_true (x1.2 != (0 : Int)) with h3 | h3
  · have hg := ite_t hg h3
    refine cd_t h3 (by kernel_rfl) ?_
    refine aw_seq ?_
    refine rg (Z := Zt) 0 0 [] [] [(2, (.ptr 1 0)), (3, (.d (eI64 x1.2)))] [(.var (.d (eDisk d))), (.var (.agg [(.d (eI64 (0 : Int))), (.agg [(.d (eU64 (0 : Int))), (.d (eU64 (0 : Int))), (.agg [(.d (eU64 (0 : Int))), (.d (eU64 (0 : Int)))])]), (.d (eB false)), (.d (eB false)), (.d (eB false))]))] [] hmx (by kernel_rfl) good_nil ?_
    refine aw_ret ?_
    have hg := some_o hg
    subst hg
    exact lv_r [true, true] [] (by kernel_rfl)
  · have hg := ite_f hg h3
    refine cd_f h3 (by kernel_rfl) ?_
    refine aw_skip ?_
    refine aw_seq ?_
    obtain ⟨x4, h5, hg⟩ := bnd_o hg
    refine rg (Z := Zt) 1 0 [(1, .vf (.tup [(.d (eSuper x4.1)), (.d (eI64 x4.2))]))] [.vf 193 [(.d (eS x1.1))]] [(1, (.ptr 0 0)), (2, (.ptr 1 0)), (5, (.d (eI64 x4.2))), (6, (.ptr 2 0))] [(.var (.d (eDisk d))), (.var (.agg [(.d (eI64 (0 : Int))), (.agg [(.d (eU64 (0 : Int))), (.d (eU64 (0 : Int))), (.agg [(.d (eU64 (0 : Int))), (.d (eU64 (0 : Int)))])]), (.d (eB false)), (.d (eB false)), (.d (eB false))])), (.var (.d (eSuper x4.1)))] [] hmx (by kernel_rfl) (good_vf (t_ref06_Decode h5) rfl rfl good_nil) ?_
    refine aw_seq ?_
    refine aw_seq ?_
    refine rg (Z := Zt) 0 0 [] [] [(1, (.ptr 0 0)), (2, (.ptr 1 0)), (5, (.d (eI64 x4.2))), (6, (.ptr 2 0)), (22, (.d (eB (x4.2 != (0 : Int)))))] [(.var (.d (eDisk d))), (.var (.agg [(.d (eI64 (0 : Int))), (.agg [(.d (eU64 (0 : Int))), (.d (eU64 (0 : Int))), (.agg [(.d (eU64 (0 : Int))), (.d (eU64 (0 : Int)))])]), (.d (eB false)), (.d (eB false)), (.d (eB false))])), (.var (.d (eSuper x4.1)))] [] hmx (by kernel_rfl) good_nil ?_
    rcases Bool.eq_false_or_eq_true (x4.2 != (0 : Int)) with h6 | h6
    · have hg := ite_t hg h6
      refine cd_t h6 (by kernel_rfl) ?_
      refine aw_seq ?_
      refine rg (Z := Zt) 0 0 [] [] [(2, (.ptr 1 0)), (3, (.d (eI64 x4.2)))] [(.var (.d (eDisk d))), (.var (.agg [(.d (eI64 (0 : Int))), (.agg [(.d (eU64 (0 : Int))), (.d (eU64 (0 : Int))), (.agg [(.d (eU64 (0 : Int))), (.d (eU64 (0 : Int)))])]), (.d (eB false)), (.d (eB false)), (.d (eB false))])), (.var (.d (eSuper x4.1)))] [] hmx (by kernel_rfl) good_nil ?_
      refine aw_ret ?_
      have hg := some_o hg
      subst hg
      exact lv_r [true, true] [] (by kernel_rfl)
    · have hg := ite_f hg h6
      refine cd_f h6 (by kernel_rfl) ?_
      refine aw_skip ?_
      refine aw_seq ?_
      refine aw_seq ?_
      obtain ⟨x7, h8, hg⟩ := let_o hg
      refine rg (Z := Zt) 0 0 [(2, .vf (.d (eB x7)))] [.vf 194 [(.d (eDisk d)), (.d (eSuper x4.1))]] [(2, (.ptr 1 0)), (6, (.ptr 2 0)), (28, (.d (eB (!x7))))] [(.var (.d (eDisk d))), (.var (.agg [(.d (eI64 (0 : Int))), (.agg [(.d (eU64 (0 : Int))), (.d (eU64 (0 : Int))), (.agg [(.d (eU64 (0 : Int))), (.d (eU64 (0 : Int)))])]), (.d (eB false)), (.d (eB false)), (.d (eB false))])), (.var (.d (eSuper x4.1)))] [] hmx (by kernel_rfl) (good_vf (t_ref07_Fits h8) rfl rfl good_nil) ?_
      rcases Bool.eq_false_or_eq_true (!x7) with h9 | h9
      · have hg := ite_t hg h9
        refine cd_t h9 (by kernel_rfl) ?_
        refine aw_seq ?_
        refine rg (Z := Zt) 0 0 [] [] [(2, (.ptr 1 0)), (3, (.d (eI64 (2 : Int))))] [(.var (.d (eDisk d))), (.var (.agg [(.d (eI64 (0 : Int))), (.agg [(.d (eU64 (0 : Int))), (.d (eU64 (0 : Int))), (.agg [(.d (eU64 (0 : Int))), (.d (eU64 (0 : Int)))])]), (.d (eB false)), (.d (eB false)), (.d (eB false))])), (.var (.d (eSuper x4.1)))] [] hmx (by kernel_rfl) good_nil ?_
        refine aw_ret ?_
        have hg := some_o hg
        subst hg
        exact lv_r [true, true] [] (by kernel_rfl)
      · have hg := ite_f hg h9
        refine cd_f h9 (by kernel_rfl) ?_
        refine aw_skip ?_
        refine aw_seq ?_
        refine rg (Z := Zt) 0 0 [] [] [(2, (.ptr 1 0)), (3, (.d (eI64 (0 : Int))))] [(.var (.d (eDisk d))), (.var (.d (eSuper x4.1))), (.var (.d (eSuper x4.1)))] [] hmx (by kernel_rfl) good_nil ?_
        refine aw_ret ?_
        have hg := some_o hg
        subst hg
        exact lv_r [true, true] [] (by kernel_rfl)

/- ref01.Get32 -/
def ref01_Get32 (n : Nat) (s : Str) : Option (Int × Bool) :=
  (Bnd (ref01_get n s (4 : Int)) fun x1 => (some ((wU32 x1.1), x1.2)))
theorem t_ref01_Get32 {n : Nat} {s : Str} {r : (Int × Bool)} (hg : ref01_Get32 n s = some r) : VF Pg 195 [(.d (eS s))] (single [(.d (eU32 r.1)), (.d (eB r.2))]) := by
  refine fn_ok (fn := Tryz.f195) (by kernel_rfl) rfl (by kernel_rfl) (Nat.le_of_ble_eq_true (by kernel_rfl)) fun B hB => ?_
  refine aw_seq ?_
  refine rg (Z := Zt) 0 0 [] [] [(0, (.d (eS s)))] [] [] hmx (by kernel_rfl) good_nil ?_
  refine aw_seq ?_
  obtain ⟨x1, h2, hg⟩ := bnd_o hg
  refine rg (Z := Zt) 0 0 [(1, .vf (.tup [(.d (eU64 x1.1)), (.d (eB x1.2))]))] [.vf 223 [(.d (eS s)), (.d (eI64 (4 : Int)))]] [(4, (.d (eU64 x1.1))), (5, (.d (eB x1.2)))] [] [] hmx (by kernel_rfl) (good_vf (t_ref01_get h2) rfl rfl good_nil) ?_
  refine aw_seq ?_
  refine rg (Z := Zt) 0 0 [] [] [(2, (.d (eU32 (wU32 x1.1)))), (3, (.d (eB x1.2)))] [] [] hmx (by kernel_rfl) good_nil ?_
  refine aw_ret ?_
  have hg := some_o hg
  subst hg
  exact lv_r [true, true] [] (by kernel_rfl)

/- ref03.pow -/
def ref03_pow_L1 (n : Nat) (n_ : Int) (v2 : Int) (v3 : Int) : Option Int :=
  match n with
  | 0 => none
  | n + 1 => (bif (decide (v3 < n_)) then (ref03_pow_L1 n n_ (wU32 ((2 : Int) * v2)) (wI64 (v3 + (1 : Int)))) else (some v2))
def ref03_pow (n : Nat) (n_ : Int) : Option Int :=
  (ref03_pow_L1 n n_ (1 : Int) (0 : Int))
theorem t_ref03_pow {n : Nat} {n_ : Int} {r : Int} (hg : ref03_pow n n_ = some r) : VF Pg 199 [(.d (eI64 n_))] (single [(.d (eU32 r))]) := by
  refine fn_ok (fn := Tryz.f199) (by kernel_rfl) rfl (by kernel_rfl) (Nat.le_of_ble_eq_true (by kernel_rfl)) fun B hB => ?_
  refine aw_seq ?_
  refine rg (Z := Zt) 0 0 [] [] [(0, (.d (eI64 n_)))] [] [] hmx (by kernel_rfl) good_nil ?_
  refine aw_seq ?_
  refine rg (Z := Zt) 0 0 [] [] [(0, (.d (eI64 n_))), (3, (.d (eU32 (1 : Int))))] [] [] hmx (by kernel_rfl) good_nil ?_
  refine aw_seq ?_
  refine aw_seq ?_
  refine rg (Z := Zt) 0 0 [] [] [(0, (.d (eI64 n_))), (3, (.d (eU32 (1 : Int)))), (4, (.d (eI64 (0 : Int))))] [] [] hmx (by kernel_rfl) good_nil ?_
  refine aw_block ?_
  refine aw_loop (fun μ σ => ∃ (v2 : Int) (v3 : Int), μ ≤ n ∧ ref03_pow_L1 μ n_ v2 v3 = some r ∧ Wk B σ (st Tryz.f199.ntmps [(0, (.d (eI64 n_))), (3, (.d (eU32 v2))), (4, (.d (eI64 v3)))] [] [])) n ⟨(1 : Int), (0 : Int), Nat.le_refl _, hg, (Wk.refl _)⟩ ?_
  rintro μ σ ⟨v2, v3, hle, hg, hwk⟩
  refine aw_wk hwk ?_
  clear hwk
  cases μ with
  | zero => exact absurd (show none = some r from hg) (by simp)
  | succ n =>
    refine aw_seq ?_
    refine aw_seq ?_
    refine rg (Z := Zt) 0 0 [] [] [(0, (.d (eI64 n_))), (3, (.d (eU32 v2))), (4, (.d (eI64 v3))), (7, (.d (eB (decide (v3 < n_)))))] [] [] hmx (by kernel_rfl) good_nil ?_
    rcases Bool.eq_false_or_eq_true (decide (v3 < n_)) with h5 | h5
    · have hg := ite_t hg h5
      refine cd_t h5 (by kernel_rfl) ?_
      refine aw_skip ?_
      refine aw_seq ?_
      refine aw_block ?_
      refine rg (Z := Zt) 0 0 [] [] [(0, (.d (eI64 n_))), (3, (.d (eU32 (wU32 ((2 : Int) * v2))))), (4, (.d (eI64 v3)))] [] [] hmx (by kernel_rfl) good_nil ?_
      refine rg (Z := Zt) 0 0 [] [] [(0, (.d (eI64 n_))), (3, (.d (eU32 (wU32 ((2 : Int) * v2))))), (4, (.d (eI64 (wI64 (v3 + (1 : Int))))))] [] [] hmx (by kernel_rfl) good_nil ?_
      exact ⟨n, by omega, (wU32 ((2 : Int) * v2)), (wI64 (v3 + (1 : Int))), by omega, hg, (Wk.refl _)⟩
    · have hg := ite_f hg h5
      refine cd_f h5 (by kernel_rfl) ?_
      refine aw_exit ?_
      refine aw_seq ?_
      refine rg (Z := Zt) 0 0 [] [] [(2, (.d (eU32 v2)))] [] [] hmx (by kernel_rfl) good_nil ?_
      refine aw_ret ?_
      have hg := some_o hg
      subst hg
      exact lv_r [true] [] (by kernel_rfl)

/- ref03.Has -/
def ref03_Has (n : Nat) (m : Int) (i : Int) : Option Bool :=
  (bif (decide (i ≥ (0 : Int))) then (bif (decide (i < (32 : Int))) then (Bnd (ref03_pow n i) fun x3 => (Chk (!(x3 == 0)) (some (((wU32 (m.tdiv x3)).tmod (2 : Int)) == (1 : Int))))) else (some false)) else (some false))
theorem t_ref03_Has {n : Nat} {m : Int} {i : Int} {r : Bool} (hg : ref03_Has n m i = some r) : VF Pg 198 [(.d (eU32 m)), (.d (eI64 i))] (single [(.d (eB r))]) := by
  refine fn_ok (fn := Tryz.f198) (by kernel_rfl) rfl (by kernel_rfl) (Nat.le_of_ble_eq_true (by kernel_rfl)) fun B hB => ?_
  refine aw_seq ?_
  refine rg (Z := Zt) 0 0 [] [] [(0, (.d (eU32 m))), (1, (.d (eI64 i)))] [] [] hmx (by kernel_rfl) good_nil ?_
  refine aw_seq ?_
  rcases Bool.eq_false_or_eq_true (decide (i ≥ (0 : Int))) with h1 | h1
  · have hg := ite_t hg h1
    rcases Bool.eq_false_or_eq_true (decide (i < (32 : Int))) with h2 | h2
    · have hg := ite_t hg h2
      obtain ⟨x3, h4, hg⟩ := bnd_o hg
      obtain ⟨h5, hg⟩ := chk_o hg
      refine rg (Z := Zt) 0 0 [(2, .op (.val (.d (eB true)))), (6, .op (.val (.d (eB true)))), (9, .vf (.d (eU32 x3))), (10, .op (.val (.d (eU32 (wU32 (m.tdiv x3))))))] [.op (some (.val (.d (eB (decide (i ≥ (0 : Int))))))), .op (some (.val (.d (eB (decide (i < (32 : Int))))))), .vf 199 [(.d (eI64 i))], .op (xBin Pg .quo 35 (.d (eU32 m)) (.d (eU32 x3)))] [(4, (.d (eB (((wU32 (m.tdiv x3)).tmod (2 : Int)) == (1 : Int)))))] [] [] hmx (by kernel_rfl) (good_op (bo h1) (good_op (bo h2) (good_vf (t_ref03_pow h4) rfl rfl (good_op (quo_ok h5) good_nil)))) ?_
      refine aw_ret ?_
      have hg := some_o hg
      subst hg
      exact lv_r [true] [] (by kernel_rfl)
    · have hg := ite_f hg h2
      refine rg (Z := Zt) 0 0 [(2, .op (.val (.d (eB true)))), (6, .op (.val (.d (eB false))))] [.op (some (.val (.d (eB (decide (i ≥ (0 : Int))))))), .op (some (.val (.d (eB (decide (i < (32 : Int)))))))] [(4, (.d (eB false)))] [] [] hmx (by kernel_rfl) (good_op (bo h1) (good_op (bo h2) good_nil)) ?_
      refine aw_ret ?_
      have hg := some_o hg
      subst hg
      exact lv_r [true] [] (by kernel_rfl)
  · have hg := ite_f hg h1
    refine rg (Z := Zt) 0 0 [(2, .op (.val (.d (eB false))))] [.op (some (.val (.d (eB (decide (i ≥ (0 : Int)))))))] [(4, (.d (eB false)))] [] [] hmx (by kernel_rfl) (good_op (bo h1) good_nil) ?_
    refine aw_ret ?_
    have hg := some_o hg
    subst hg
    exact lv_r [true] [] (by kernel_rfl)

/- ref03.Right -/
def ref03_Right_L1 (n : Nat) (m : Int) (blocks : Int) (v7 : Int) : Option Bool :=
  match n with
  | 0 => none
  | n + 1 => (bif (decide (v7 < (32 : Int))) then (Bnd (ref03_Has n m v7) fun x13 => (bif x13 then (some false) else (ref03_Right_L1 n m blocks (wI64 (v7 + (1 : Int)))))) else (some true))
def ref03_Right (n : Nat) (m : Int) (blocks : Int) : Option Bool :=
  (bif (decide (blocks < (1 : Int))) then (some false) else (bif (decide (blocks > (32 : Int))) then (some false) else (ref03_Right_L1 n m blocks blocks)))
theorem t_ref03_Right {n : Nat} {m : Int} {blocks : Int} {r : Bool} (hg : ref03_Right n m blocks = some r) : VF Pg 196 [(.d (eU32 m)), (.d (eI64 blocks))] (single [(.d (eB r))]) := by
  refine fn_ok (fn := Tryz.f196) (by kernel_rfl) rfl (by kernel_rfl) (Nat.le_of_ble_eq_true (by kernel_rfl)) fun B hB => ?_
  refine aw_seq ?_
  refine rg (Z := Zt) 0 0 [] [] [(0, (.d (eU32 m))), (1, (.d (eI64 blocks)))] [] [] hmx (by kernel_rfl) good_nil ?_
  refine aw_seq ?_
  refine aw_seq ?_
  rcases Bool.eq_false_or_eq_true (decide (blocks < (1 : Int))) with h1 | h1
  · have hg := ite_t hg h1
    refine rg (Z := Zt) 0 0 [(2, .op (.val (.d (eB true))))] [.op (some (.val (.d (eB (decide (blocks < (1 : Int)))))))] [(0, (.d (eU32 m))), (1, (.d (eI64 blocks))), (11, (.d (eB true)))] [] [] hmx (by kernel_rfl) (good_op (bo h1) good_nil) ?_
    refine cd_t rfl (by kernel_rfl) ?_
    refine aw_seq ?_
    refine rg (Z := Zt) 0 0 [] [] [(4, (.d (eB false)))] [] [] hmx (by kernel_rfl) good_nil ?_
    refine aw_ret ?_
    have hg := some_o hg
    subst hg
    exact lv_r [true] [] (by kernel_rfl)
  · have hg := ite_f hg h1
    refine rg (Z := Zt) 0 0 [(2, .op (.val (.d (eB false))))] [.op (some (.val (.d (eB (decide (blocks < (1 : Int)))))))] [(0, (.d (eU32 m))), (1, (.d (eI64 blocks))), (11, (.d (eB (decide (blocks > (32 : Int))))))] [] [] hmx (by kernel_rfl) (good_op (bo h1) good_nil) ?_
    rcases Bool.eq_false_or_eq_true (decide (blocks > (32 : Int))) with h2 | h2
    · have hg := ite_t hg h2
      refine cd_t h2 (by kernel_rfl) ?_
      refine aw_seq ?_
      refine rg (Z := Zt) 0 0 [] [] [(4, (.d (eB false)))] [] [] hmx (by kernel_rfl) good_nil ?_
      refine aw_ret ?_
      have hg := some_o hg
      subst hg
      exact lv_r [true] [] (by kernel_rfl)
    · have hg := ite_f hg h2
      refine cd_f h2 (by kernel_rfl) ?_
      refine aw_skip ?_
      refine aw_seq ?_
      refine aw_seq ?_
      refine rg (Z := Zt) 0 0 [] [] [(0, (.d (eU32 m))), (5, (.d (eI64 blocks)))] [] [] hmx (by kernel_rfl) good_nil ?_
      refine aw_block ?_
      refine aw_loop (fun μ σ => ∃ (v7 : Int), μ ≤ n ∧ ref03_Right_L1 μ m blocks v7 = some r ∧ Wk B σ (st Tryz.f196.ntmps [(0, (.d (eU32 m))), (5, (.d (eI64 v7)))] [] [])) n ⟨blocks, Nat.le_refl _, hg, (Wk.refl _)⟩ ?_
      rintro μ σ ⟨v7, hle, hg, hwk⟩
      refine aw_wk hwk ?_
      clear hwk
      cases μ with
      | zero => exact absurd (show none = some r from hg) (by simp)
      | succ n =>
        refine aw_seq ?_
        refine aw_seq ?_
        refine rg (Z := Zt) 0 0 [] [] [(0, (.d (eU32 m))), (5, (.d (eI64 v7))), (14, (.d (eB (decide (v7 < (32 : Int))))))] [] [] hmx (by kernel_rfl) good_nil ?_
        rcases Bool.eq_false_or_eq_true (decide (v7 < (32 : Int))) with h12 | h12
        · have hg := ite_t hg h12
          refine cd_t h12 (by kernel_rfl) ?_
          refine aw_skip ?_
          refine aw_seq ?_
          refine aw_block ?_
          refine aw_seq ?_
          obtain ⟨x13, h14, hg⟩ := bnd_o hg
          refine rg (Z := Zt) 0 0 [(2, .vf (.d (eB x13)))] [.vf 198 [(.d (eU32 m)), (.d (eI64 v7))]] [(0, (.d (eU32 m))), (5, (.d (eI64 v7))), (19, (.d (eB x13)))] [] [] hmx (by kernel_rfl) (good_vf (t_ref03_Has h14) rfl rfl good_nil) ?_
          rcases Bool.eq_false_or_eq_true x13 with h15 | h15
          · have hg := ite_t hg h15
            refine cd_t h15 (by kernel_rfl) ?_
            refine aw_seq ?_
            refine rg (Z := Zt) 0 0 [] [] [(4, (.d (eB false)))] [] [] hmx (by kernel_rfl) good_nil ?_
            refine aw_ret ?_
            have hg := some_o hg
            subst hg
            exact lv_r [true] [] (by kernel_rfl)
          · have hg := ite_f hg h15
            refine cd_f h15 (by kernel_rfl) ?_
            refine aw_skip ?_
            refine rg (Z := Zt) 0 0 [] [] [(0, (.d (eU32 m))), (5, (.d (eI64 (wI64 (v7 + (1 : Int))))))] [] [] hmx (by kernel_rfl) good_nil ?_
            exact ⟨n, by omega, (wI64 (v7 + (1 : Int))), by omega, hg, (Wk.refl _)⟩
        · have hg := ite_f hg h12
          refine cd_f h12 (by kernel_rfl) ?_
          refine aw_exit ?_
          refine aw_seq ?_
          refine rg (Z := Zt) 0 0 [] [] [(4, (.d (eB true)))] [] [] hmx (by kernel_rfl) good_nil ?_
          refine aw_ret ?_
          have hg := some_o hg
          subst hg
          exact lv_r [true] [] (by kernel_rfl)

/- ref08.Load -/
def ref08_Load (n : Nat) (d : Disk) : Option (Int × Int) :=
  (Bnd (ref04_Read n d (1 : Int)) fun x1 => (bif (x1.2 != (0 : Int)) then (some ((0 : Int), x1.2)) else (Bnd (ref02_Open n x1.1) fun x4 => (bif (x4.2 != (0 : Int)) then (some ((0 : Int), x4.2)) else (Bnd (ref01_Get32 n x4.1) fun x7 => (bif (!x7.2) then (some ((0 : Int), (2 : Int))) else (Bnd (ref03_Right n x7.1 (wI64 ((d.sure.length : Int) - (2 : Int)))) fun x10 => (bif (!x10) then (some ((0 : Int), (2 : Int))) else (some (x7.1, (0 : Int)))))))))))
theorem t_ref08_Load {n : Nat} {d : Disk} {r : (Int × Int)} (hg : ref08_Load n d = some r) : VF Pg 130 [(.d (eDisk d))] (single [(.d (eU32 r.1)), (.d (eI64 r.2))]) := by
  refine fn_ok (fn := Tryz.f130) (by kernel_rfl) rfl (by kernel_rfl) (Nat.le_of_ble_eq_true (by kernel_rfl)) fun B hB => ?_
  refine aw_seq ?_
  refine rg (Z := Zt) 1 0 [] [] [(1, (.ptr 0 0))] [(.var (.d (eDisk d)))] [] hmx (by kernel_rfl) good_nil ?_
  refine aw_seq ?_
  obtain ⟨x1, h2, hg⟩ := bnd_o hg
  refine rg (Z := Zt) 0 0 [(1, .vf (.tup [(.d (eS x1.1)), (.d (eI64 x1.2))]))] [.vf 185 [(.d (eDisk d)), (.d (eI64 (1 : Int)))]] [(1, (.ptr 0 0)), (4, (.d (eS x1.1))), (5, (.d (eI64 x1.2)))] [(.var (.d (eDisk d)))] [] hmx (by kernel_rfl) (good_vf (t_ref04_Read h2) rfl rfl good_nil) ?_
  refine aw_seq ?_
  refine aw_seq ?_
  refine rg (Z := Zt) 0 0 [] [] [(1, (.ptr 0 0)), (4, (.d (eS x1.1))), (5, (.d (eI64 x1.2))), (15, (.d (eB (x1.2 != (0 : Int)))))] [(.var (.d (eDisk d)))] [] hmx (by kernel_rfl) good_nil ?_
  rcases Bool.eq_false_or_eq_true (x1.2 != (0 : Int)) with h3 | h3
  · have hg := ite_t hg h3
    refine cd_t h3 (by kernel_rfl) ?_
    refine aw_seq ?_
    refine rg (Z := Zt) 0 0 [] [] [(2, (.d (eU32 (0 : Int)))), (3, (.d (eI64 x1.2)))] [(.var (.d (eDisk d)))] [] hmx (by kernel_rfl) good_nil ?_
    refine aw_ret ?_
    have hg := some_o hg
    subst hg
    exact lv_r [true, true] [] (by kernel_rfl)
  · have hg := ite_f hg h3
    refine cd_f h3 (by kernel_rfl) ?_
    refine aw_skip ?_
    refine aw_seq ?_
    obtain ⟨x4, h5, hg⟩ := bnd_o hg
    refine rg (Z := Zt) 0 0 [(1, .vf (.tup [(.d (eS x4.1)), (.d (eI64 x4.2))]))] [.vf 159 [(.d (eS x1.1))]] [(1, (.ptr 0 0)), (5, (.d (eI64 x4.2))), (6, (.d (eS x4.1)))] [(.var (.d (eDisk d)))] [] hmx (by kernel_rfl) (good_vf (t_ref02_Open h5) rfl rfl good_nil) ?_
    refine aw_seq ?_
    refine aw_seq ?_
    refine rg (Z := Zt) 0 0 [] [] [(1, (.ptr 0 0)), (5, (.d (eI64 x4.2))), (6, (.d (eS x4.1))), (23, (.d (eB (x4.2 != (0 : Int)))))] [(.var (.d (eDisk d)))] [] hmx (by kernel_rfl) good_nil ?_
    rcases Bool.eq_false_or_eq_true (x4.2 != (0 : Int)) with h6 | h6
    · have hg := ite_t hg h6
      refine cd_t h6 (by kernel_rfl) ?_
      refine aw_seq ?_
      refine rg (Z := Zt) 0 0 [] [] [(2, (.d (eU32 (0 : Int)))), (3, (.d (eI64 x4.2)))] [(.var (.d (eDisk d)))] [] hmx (by kernel_rfl) good_nil ?_
      refine aw_ret ?_
      have hg := some_o hg
      subst hg
      exact lv_r [true, true] [] (by kernel_rfl)
    · have hg := ite_f hg h6
      refine cd_f h6 (by kernel_rfl) ?_
      refine aw_skip ?_
      refine aw_seq ?_
      obtain ⟨x7, h8, hg⟩ := bnd_o hg
      refine rg (Z := Zt) 0 0 [(1, .vf (.tup [(.d (eU32 x7.1)), (.d (eB x7.2))]))] [.vf 195 [(.d (eS x4.1))]] [(1, (.ptr 0 0)), (7, (.d (eU32 x7.1))), (8, (.d (eB x7.2)))] [(.var (.d (eDisk d)))] [] hmx (by kernel_rfl) (good_vf (t_ref01_Get32 h8) rfl rfl good_nil) ?_
      refine aw_seq ?_
      refine aw_seq ?_
      rcases Bool.eq_false_or_eq_true (!x7.2) with h9 | h9
      · have hg := ite_t hg h9
        refine rg (Z := Zt) 0 0 [(2, .op (.val (.d (eB true))))] [.op (some (.val (.d (eB (!x7.2)))))] [(7, (.d (eU32 x7.1))), (40, (.d (eB true)))] [(.var (.d (eDisk d)))] [] hmx (by kernel_rfl) (good_op (bo h9) good_nil) ?_
        refine cd_t rfl (by kernel_rfl) ?_
        refine aw_seq ?_
        refine rg (Z := Zt) 0 0 [] [] [(2, (.d (eU32 (0 : Int)))), (3, (.d (eI64 (2 : Int))))] [(.var (.d (eDisk d)))] [] hmx (by kernel_rfl) good_nil ?_
        refine aw_ret ?_
        have hg := some_o hg
        subst hg
        exact lv_r [true, true] [] (by kernel_rfl)
      · have hg := ite_f hg h9
        obtain ⟨x10, h11, hg⟩ := bnd_o hg
        refine rg (Z := Zt) 0 0 [(2, .op (.val (.d (eB false)))), (6, .op (.val (.d (eI64 (d.sure.length : Int))))), (8, .vf (.d (eB x10)))] [.op (some (.val (.d (eB (!x7.2))))), .op (xLen Pg 25 (.d ((eL eS) d.sure))), .vf 196 [(.d (eU32 x7.1)), (.d (eI64 (wI64 ((d.sure.length : Int) - (2 : Int)))))]] [(7, (.d (eU32 x7.1))), (40, (.d (eB (!x10))))] [(.var (.d (eDisk d)))] [] hmx (by kernel_rfl) (good_op (bo h9) (good_op (len_d (e := 9) (by kernel_rfl)) (good_vf (t_ref03_Right h11) rfl rfl good_nil))) ?_
        rcases Bool.eq_false_or_eq_true (!x10) with h12 | h12
        · have hg := ite_t hg h12
          refine cd_t h12 (by kernel_rfl) ?_
          refine aw_seq ?_
          refine rg (Z := Zt) 0 0 [] [] [(2, (.d (eU32 (0 : Int)))), (3, (.d (eI64 (2 : Int))))] [(.var (.d (eDisk d)))] [] hmx (by kernel_rfl) good_nil ?_
          refine aw_ret ?_
          have hg := some_o hg
          subst hg
          exact lv_r [true, true] [] (by kernel_rfl)
        · have hg := ite_f hg h12
          refine cd_f h12 (by kernel_rfl) ?_
          refine aw_skip ?_
          refine aw_seq ?_
          refine rg (Z := Zt) 0 0 [] [] [(2, (.d (eU32 x7.1))), (3, (.d (eI64 (0 : Int))))] [(.var (.d (eDisk d)))] [] hmx (by kernel_rfl) good_nil ?_
          refine aw_ret ?_
          have hg := some_o hg
          subst hg
          exact lv_r [true, true] [] (by kernel_rfl)

/- ref15.Attach -/
def ref15_Attach (n : Nat) (d : Disk) : Option (Store × Int) :=
  (Bnd (ref07_Load n d) fun x1 => (bif (x1.2 != (0 : Int)) then (some ((Store.mk (Disk.mk ([] : (List Str)) ([] : (List Write)) (0 : Int) false) (Super.mk (0 : Int) (Vector.mk (0 : Int) (0 : Int) (A2.mk (0 : Int) (0 : Int))) false false false) (0 : Int)), x1.2)) else (Bnd (ref08_Load n d) fun x4 => (bif (x4.2 != (0 : Int)) then (some ((Store.mk (Disk.mk ([] : (List Str)) ([] : (List Write)) (0 : Int) false) (Super.mk (0 : Int) (Vector.mk (0 : Int) (0 : Int) (A2.mk (0 : Int) (0 : Int))) false false false) (0 : Int)), x4.2)) else (Bnd (ref09_All n d) fun x7 => (bif (x7.2 != (0 : Int)) then (some ((Store.mk (Disk.mk ([] : (List Str)) ([] : (List Write)) (0 : Int) false) (Super.mk (0 : Int) (Vector.mk (0 : Int) (0 : Int) (A2.mk (0 : Int) (0 : Int))) false false false) (0 : Int)), x7.2)) else (some ((Store.mk d x1.1 x4.1), (0 : Int)))))))))
theorem t_ref15_Attach {n : Nat} {d : Disk} {r : (Store × Int)} (hg : ref15_Attach n d = some r) : VF Pg 63 [(.d (eDisk d))] (single [(.d (eStore r.1)), (.d (eI64 r.2))]) := by
  refine fn_ok (fn := Tryz.f63) (by kernel_rfl) rfl (by kernel_rfl) (Nat.le_of_ble_eq_true (by kernel_rfl)) fun B hB => ?_
  refine aw_seq ?_
  refine rg (Z := Zt) 2 0 [] [] [(1, (.ptr 0 0)), (2, (.ptr 1 0))] [(.var (.d (eDisk d))), (.var (.agg [(.agg [(.full (([] : (List Str)).map eS)), (.full (([] : (List Write)).map eWrite)), (.d (eI64 (0 : Int))), (.d (eB false))]), (.agg [(.d (eI64 (0 : Int))), (.agg [(.d (eU64 (0 : Int))), (.d (eU64 (0 : Int))), (.agg [(.d (eU64 (0 : Int))), (.d (eU64 (0 : Int)))])]), (.d (eB false)), (.d (eB false)), (.d (eB false))]), (.d (eU32 (0 : Int)))]))] [] hmx (by kernel_rfl) good_nil ?_
  refine aw_seq ?_
  obtain ⟨x1, h2, hg⟩ := bnd_o hg
  refine rg (Z := Zt) 1 0 [(1, .vf (.tup [(.d (eSuper x1.1)), (.d (eI64 x1.2))]))] [.vf 129 [(.d (eDisk d))]] [(1, (.ptr 0 0)), (2, (.ptr 1 0)), (4, (.ptr 2 0)), (5, (.d (eI64 x1.2)))] [(.var (.d (eDisk d))), (.var (.agg [(.agg [(.full (([] : (List Str)).map eS)), (.full (([] : (List Write)).map eWrite)), (.d (eI64 (0 : Int))), (.d (eB false))]), (.agg [(.d (eI64 (0 : Int))), (.agg [(.d (eU64 (0 : Int))), (.d (eU64 (0 : Int))), (.agg [(.d (eU64 (0 : Int))), (.d (eU64 (0 : Int)))])]), (.d (eB false)), (.d (eB false)), (.d (eB false))]), (.d (eU32 (0 : Int)))])), (.var (.d (eSuper x1.1)))] [] hmx (by kernel_rfl) (good_vf (t_ref07_Load h2) rfl rfl good_nil) ?_
  refine aw_seq ?_
  refine aw_seq ?_
  refine rg (Z := Zt) 0 0 [] [] [(1, (.ptr 0 0)), (2, (.ptr 1 0)), (4, (.ptr 2 0)), (5, (.d (eI64 x1.2))), (13, (.d (eB (x1.2 != (0 : Int)))))] [(.var (.d (eDisk d))), (.var (.agg [(.agg [(.full (([] : (List Str)).map eS)), (.full (([] : (List Write)).map eWrite)), (.d (eI64 (0 : Int))), (.d (eB false))]), (.agg [(.d (eI64 (0 : Int))), (.agg [(.d (eU64 (0 : Int))), (.d (eU64 (0 : Int))), (.agg [(.d (eU64 (0 : Int))), (.d (eU64 (0 : Int)))])]), (.d (eB false)), (.d (eB false)), (.d (eB false))]), (.d (eU32 (0 : Int)))])), (.var (.d (eSuper x1.1)))] [] hmx (by kernel_rfl) good_nil ?_
  rcases Bool.eq_false_or_eq_true (x1.2 != (0 : Int)) with h3 | h3
  · have hg := ite_t hg h3
    refine cd_t h3 (by kernel_rfl) ?_
    refine aw_seq ?_
    refine rg (Z := Zt) 0 0 [] [] [(2, (.ptr 1 0)), (3, (.d (eI64 x1.2)))] [(.var (.d (eDisk d))), (.var (.agg [(.agg [(.full (([] : (List Str)).map eS)), (.full (([] : (List Write)).map eWrite)), (.d (eI64 (0 : Int))), (.d (eB false))]), (.agg [(.d (eI64 (0 : Int))), (.agg [(.d (eU64 (0 : Int))), (.d (eU64 (0 : Int))), (.agg [(.d (eU64 (0 : Int))), (.d (eU64 (0 : Int)))])]), (.d (eB false)), (.d (eB false)), (.d (eB false))]), (.d (eU32 (0 : Int)))])), (.var (.d (eSuper x1.1)))] [] hmx (by kernel_rfl) good_nil ?_
    refine aw_ret ?_
    have hg := some_o hg
    subst hg
    exact lv_r [true, true] [] (by kernel_rfl)
  · have hg := ite_f hg h3
    refine cd_f h3 (by kernel_rfl) ?_
    refine aw_skip ?_
    refine aw_seq ?_
    obtain ⟨x4, h5, hg⟩ := bnd_o hg
    refine rg (Z := Zt) 0 0 [(1, .vf (.tup [(.d (eU32 x4.1)), (.d (eI64 x4.2))]))] [.vf 130 [(.d (eDisk d))]] [(1, (.ptr 0 0)), (2, (.ptr 1 0)), (4, (.ptr 2 0)), (5, (.d (eI64 x4.2))), (6, (.d (eU32 x4.1)))] [(.var (.d (eDisk d))), (.var (.agg [(.agg [(.full (([] : (List Str)).map eS)), (.full (([] : (List Write)).map eWrite)), (.d (eI64 (0 : Int))), (.d (eB false))]), (.agg [(.d (eI64 (0 : Int))), (.agg [(.d (eU64 (0 : Int))), (.d (eU64 (0 : Int))), (.agg [(.d (eU64 (0 : Int))), (.d (eU64 (0 : Int)))])]), (.d (eB false)), (.d (eB false)), (.d (eB false))]), (.d (eU32 (0 : Int)))])), (.var (.d (eSuper x1.1)))] [] hmx (by kernel_rfl) (good_vf (t_ref08_Load h5) rfl rfl good_nil) ?_
    refine aw_seq ?_
    refine aw_seq ?_
    refine rg (Z := Zt) 0 0 [] [] [(1, (.ptr 0 0)), (2, (.ptr 1 0)), (4, (.ptr 2 0)), (5, (.d (eI64 x4.2))), (6, (.d (eU32 x4.1))), (22, (.d (eB (x4.2 != (0 : Int)))))] [(.var (.d (eDisk d))), (.var (.agg [(.agg [(.full (([] : (List Str)).map eS)), (.full (([] : (List Write)).map eWrite)), (.d (eI64 (0 : Int))), (.d (eB false))]), (.agg [(.d (eI64 (0 : Int))), (.agg [(.d (eU64 (0 : Int))), (.d (eU64 (0 : Int))), (.agg [(.d (eU64 (0 : Int))), (.d (eU64 (0 : Int)))])]), (.d (eB false)), (.d (eB false)), (.d (eB false))]), (.d (eU32 (0 : Int)))])), (.var (.d (eSuper x1.1)))] [] hmx (by kernel_rfl) good_nil ?_
    rcases Bool.eq_false_or_eq_true (x4.2 != (0 : Int)) with h6 | h6
    · have hg := ite_t hg h6
      refine cd_t h6 (by kernel_rfl) ?_
      refine aw_seq ?_
      refine rg (Z := Zt) 0 0 [] [] [(2, (.ptr 1 0)), (3, (.d (eI64 x4.2)))] [(.var (.d (eDisk d))), (.var (.agg [(.agg [(.full (([] : (List Str)).map eS)), (.full (([] : (List Write)).map eWrite)), (.d (eI64 (0 : Int))), (.d (eB false))]), (.agg [(.d (eI64 (0 : Int))), (.agg [(.d (eU64 (0 : Int))), (.d (eU64 (0 : Int))), (.agg [(.d (eU64 (0 : Int))), (.d (eU64 (0 : Int)))])]), (.d (eB false)), (.d (eB false)), (.d (eB false))]), (.d (eU32 (0 : Int)))])), (.var (.d (eSuper x1.1)))] [] hmx (by kernel_rfl) good_nil ?_
      refine aw_ret ?_
      have hg := some_o hg
      subst hg
      exact lv_r [true, true] [] (by kernel_rfl)
    · have hg := ite_f hg h6
      refine cd_f h6 (by kernel_rfl) ?_
      refine aw_skip ?_
      refine aw_seq ?_
      obtain ⟨x7, h8, hg⟩ := bnd_o hg
      refine rg (Z := Zt) 0 0 [(1, .vf (.tup [(.d ((eL eS) x7.1)), (.d (eI64 x7.2))]))] [.vf 55 [(.d (eDisk d))]] [(1, (.ptr 0 0)), (2, (.ptr 1 0)), (4, (.ptr 2 0)), (5, (.d (eI64 x7.2))), (6, (.d (eU32 x4.1)))] [(.var (.d (eDisk d))), (.var (.agg [(.agg [(.full (([] : (List Str)).map eS)), (.full (([] : (List Write)).map eWrite)), (.d (eI64 (0 : Int))), (.d (eB false))]), (.agg [(.d (eI64 (0 : Int))), (.agg [(.d (eU64 (0 : Int))), (.d (eU64 (0 : Int))), (.agg [(.d (eU64 (0 : Int))), (.d (eU64 (0 : Int)))])]), (.d (eB false)), (.d (eB false)), (.d (eB false))]), (.d (eU32 (0 : Int)))])), (.var (.d (eSuper x1.1)))] [] hmx (by kernel_rfl) (good_vf (t_ref09_All h8) rfl rfl good_nil) ?_
      refine aw_seq ?_
      refine aw_seq ?_
      refine rg (Z := Zt) 0 0 [] [] [(1, (.ptr 0 0)), (2, (.ptr 1 0)), (4, (.ptr 2 0)), (5, (.d (eI64 x7.2))), (6, (.d (eU32 x4.1))), (31, (.d (eB (x7.2 != (0 : Int)))))] [(.var (.d (eDisk d))), (.var (.agg [(.agg [(.full (([] : (List Str)).map eS)), (.full (([] : (List Write)).map eWrite)), (.d (eI64 (0 : Int))), (.d (eB false))]), (.agg [(.d (eI64 (0 : Int))), (.agg [(.d (eU64 (0 : Int))), (.d (eU64 (0 : Int))), (.agg [(.d (eU64 (0 : Int))), (.d (eU64 (0 : Int)))])]), (.d (eB false)), (.d (eB false)), (.d (eB false))]), (.d (eU32 (0 : Int)))])), (.var (.d (eSuper x1.1)))] [] hmx (by kernel_rfl) good_nil ?_
      rcases Bool.eq_false_or_eq_true (x7.2 != (0 : Int)) with h9 | h9
      · have hg := ite_t hg h9
        refine cd_t h9 (by kernel_rfl) ?_
        refine aw_seq ?_
        refine rg (Z := Zt) 0 0 [] [] [(2, (.ptr 1 0)), (3, (.d (eI64 x7.2)))] [(.var (.d (eDisk d))), (.var (.agg [(.agg [(.full (([] : (List Str)).map eS)), (.full (([] : (List Write)).map eWrite)), (.d (eI64 (0 : Int))), (.d (eB false))]), (.agg [(.d (eI64 (0 : Int))), (.agg [(.d (eU64 (0 : Int))), (.d (eU64 (0 : Int))), (.agg [(.d (eU64 (0 : Int))), (.d (eU64 (0 : Int)))])]), (.d (eB false)), (.d (eB false)), (.d (eB false))]), (.d (eU32 (0 : Int)))])), (.var (.d (eSuper x1.1)))] [] hmx (by kernel_rfl) good_nil ?_
        refine aw_ret ?_
        have hg := some_o hg
        subst hg
        exact lv_r [true, true] [] (by kernel_rfl)
      · have hg := ite_f hg h9
        refine cd_f h9 (by kernel_rfl) ?_
        refine aw_skip ?_
        refine aw_seq ?_
        refine rg (Z := Zt) 0 0 [] [] [(2, (.ptr 1 0)), (3, (.d (eI64 (0 : Int))))] [(.var (.d (eDisk d))), (.var (.agg [(.d (eDisk d)), (.d (eSuper x1.1)), (.d (eU32 x4.1))])), (.var (.d (eSuper x1.1)))] [] hmx (by kernel_rfl) good_nil ?_
        refine aw_ret ?_
        have hg := some_o hg
        subst hg
        exact lv_r [true, true] [] (by kernel_rfl)

/- ref15.New -/
def ref15_New (n : Nat) (blocks : Int) : Option Store :=
  (Bnd (ref09_Format n blocks (7 : Int)) fun x1 => (Bnd (ref15_Attach n x1.1) fun x3 => (some x3.1)))
theorem t_ref15_New {n : Nat} {blocks : Int} {r : Store} (hg : ref15_New n blocks = some r) : VF Pg 14 [(.d (eI64 blocks))] (single [(.d (eStore r))]) := by
  refine fn_ok (fn := Tryz.f14) (by kernel_rfl) rfl (by kernel_rfl) (Nat.le_of_ble_eq_true (by kernel_rfl)) fun B hB => ?_
  refine aw_seq ?_
  refine rg (Z := Zt) 1 0 [] [] [(0, (.d (eI64 blocks))), (2, (.ptr 0 0))] [(.var (.agg [(.agg [(.full (([] : (List Str)).map eS)), (.full (([] : (List Write)).map eWrite)), (.d (eI64 (0 : Int))), (.d (eB false))]), (.agg [(.d (eI64 (0 : Int))), (.agg [(.d (eU64 (0 : Int))), (.d (eU64 (0 : Int))), (.agg [(.d (eU64 (0 : Int))), (.d (eU64 (0 : Int)))])]), (.d (eB false)), (.d (eB false)), (.d (eB false))]), (.d (eU32 (0 : Int)))]))] [] hmx (by kernel_rfl) good_nil ?_
  refine aw_seq ?_
  obtain ⟨x1, h2, hg⟩ := bnd_o hg
  refine rg (Z := Zt) 1 0 [(1, .vf (.tup [(.d (eDisk x1.1)), (.d (eI64 x1.2))]))] [.vf 62 [(.d (eI64 blocks)), (.d (eU64 (7 : Int)))]] [(2, (.ptr 0 0)), (3, (.ptr 1 0))] [(.var (.agg [(.agg [(.full (([] : (List Str)).map eS)), (.full (([] : (List Write)).map eWrite)), (.d (eI64 (0 : Int))), (.d (eB false))]), (.agg [(.d (eI64 (0 : Int))), (.agg [(.d (eU64 (0 : Int))), (.d (eU64 (0 : Int))), (.agg [(.d (eU64 (0 : Int))), (.d (eU64 (0 : Int)))])]), (.d (eB false)), (.d (eB false)), (.d (eB false))]), (.d (eU32 (0 : Int)))])), (.var (.d (eDisk x1.1)))] [] hmx (by kernel_rfl) (good_vf (t_ref09_Format h2) rfl rfl good_nil) ?_
  refine aw_seq ?_
  obtain ⟨x3, h4, hg⟩ := bnd_o hg
  refine rg (Z := Zt) 1 0 [(1, .vf (.tup [(.d (eStore x3.1)), (.d (eI64 x3.2))]))] [.vf 63 [(.d (eDisk x1.1))]] [(2, (.ptr 0 0)), (5, (.ptr 2 0))] [(.var (.agg [(.agg [(.full (([] : (List Str)).map eS)), (.full (([] : (List Write)).map eWrite)), (.d (eI64 (0 : Int))), (.d (eB false))]), (.agg [(.d (eI64 (0 : Int))), (.agg [(.d (eU64 (0 : Int))), (.d (eU64 (0 : Int))), (.agg [(.d (eU64 (0 : Int))), (.d (eU64 (0 : Int)))])]), (.d (eB false)), (.d (eB false)), (.d (eB false))]), (.d (eU32 (0 : Int)))])), (.var (.d (eDisk x1.1))), (.var (.d (eStore x3.1)))] [] hmx (by kernel_rfl) (good_vf (t_ref15_Attach h4) rfl rfl good_nil) ?_
  refine aw_seq ?_
  refine rg (Z := Zt) 0 0 [] [] [(2, (.ptr 0 0))] [(.var (.d (eStore x3.1))), (.var (.d (eDisk x1.1))), (.var (.d (eStore x3.1)))] [] hmx (by kernel_rfl) good_nil ?_
  refine aw_ret ?_
  have hg := some_o hg
  subst hg
  exact lv_r [true] [] (by kernel_rfl)

/- store.there -/
def store_there (s : Store) (i : Int) : Bool :=
  (bif (decide (i ≥ (0 : Int))) then (decide (i < s.super.blocks)) else false)
theorem t_store_there {s : Store} {i : Int} {r : Bool} (hg : store_there s i = r) : VF Pg 71 [(.d (eStore s)), (.d (eI64 i))] (single [(.d (eB r))]) := by
  refine fn_ok (fn := Tryz.f71) (by kernel_rfl) rfl (by kernel_rfl) (Nat.le_of_ble_eq_true (by kernel_rfl)) fun B hB => ?_
  refine aw_seq ?_
  refine rg (Z := Zt) 1 0 [] [] [(1, (.d (eI64 i))), (2, (.ptr 0 0))] [(.var (.d (eStore s)))] [] hmx (by kernel_rfl) good_nil ?_
  refine aw_seq ?_
  rcases Bool.eq_false_or_eq_true (decide (i ≥ (0 : Int))) with h1 | h1
  · have hg := ite_t hg h1
    refine rg (Z := Zt) 0 0 [(2, .op (.val (.d (eB true))))] [.op (some (.val (.d (eB (decide (i ≥ (0 : Int)))))))] [(4, (.d (eB (decide (i < s.super.blocks)))))] [(.var (.d (eStore s)))] [] hmx (by kernel_rfl) (good_op (bo h1) good_nil) ?_
    refine aw_ret ?_
    subst hg
    exact lv_r [true] [] (by kernel_rfl)
  · have hg := ite_f hg h1
    refine rg (Z := Zt) 0 0 [(2, .op (.val (.d (eB false))))] [.op (some (.val (.d (eB (decide (i ≥ (0 : Int)))))))] [(4, (.d (eB false)))] [(.var (.d (eStore s)))] [] hmx (by kernel_rfl) (good_op (bo h1) good_nil) ?_
    refine aw_ret ?_
    subst hg
    exact lv_r [true] [] (by kernel_rfl)

/- mask.there -/
def mask_there (i : Int) : Bool :=
  (bif (decide (i ≥ (0 : Int))) then (decide (i < (32 : Int))) else false)
theorem t_mask_there {i : Int} {r : Bool} (hg : mask_there i = r) : VF Pg 203 [(.d (eI64 i))] (single [(.d (eB r))]) := by
  refine fn_ok (fn := Tryz.f203) (by kernel_rfl) rfl (by kernel_rfl) (Nat.le_of_ble_eq_true (by kernel_rfl)) fun B hB => ?_
  refine aw_seq ?_
  refine rg (Z := Zt) 0 0 [] [] [(0, (.d (eI64 i)))] [] [] hmx (by kernel_rfl) good_nil ?_
  refine aw_seq ?_
  rcases Bool.eq_false_or_eq_true (decide (i ≥ (0 : Int))) with h1 | h1
  · have hg := ite_t hg h1
    refine rg (Z := Zt) 0 0 [(2, .op (.val (.d (eB true))))] [.op (some (.val (.d (eB (decide (i ≥ (0 : Int)))))))] [(2, (.d (eB (decide (i < (32 : Int))))))] [] [] hmx (by kernel_rfl) (good_op (bo h1) good_nil) ?_
    refine aw_ret ?_
    subst hg
    exact lv_r [true] [] (by kernel_rfl)
  · have hg := ite_f hg h1
    refine rg (Z := Zt) 0 0 [(2, .op (.val (.d (eB false))))] [.op (some (.val (.d (eB (decide (i ≥ (0 : Int)))))))] [(2, (.d (eB false)))] [] [] hmx (by kernel_rfl) (good_op (bo h1) good_nil) ?_
    refine aw_ret ?_
    subst hg
    exact lv_r [true] [] (by kernel_rfl)

/- mask.of -/
def mask_of_L1 (n : Nat) (l : (List Int)) (v7 : Int) (v8 : Int) : Option Int :=
  match n with
  | 0 => none
  | n + 1 => (bif (decide (v8 < (l.length : Int))) then (Chk (inR v8 l.length) (Let (mask_there (gt l v8)) fun x17 => (bif x17 then (Chk (decide (0 ≤ (gt l v8))) (mask_of_L1 n l (orU32 v7 (shlU32 (1 : Int) (gt l v8))) (wI64 (v8 + (1 : Int))))) else (mask_of_L1 n l v7 (wI64 (v8 + (1 : Int))))))) else (some v7))
def mask_of (n : Nat) (l : (List Int)) : Option Int :=
  (mask_of_L1 n l (0 : Int) (0 : Int))
theorem t_mask_of {n : Nat} {l : (List Int)} {r : Int} (hg : mask_of n l = some r) : VF Pg 138 [(.d ((eL eI64) l))] (single [(.d (eU32 r))]) := by
  refine fn_ok (fn := Tryz.f138) (by kernel_rfl) rfl (by kernel_rfl) (Nat.le_of_ble_eq_true (by kernel_rfl)) fun B hB => ?_
  refine aw_seq ?_
  refine rg (Z := Zt) 0 0 [] [] [(0, (.d ((eL eI64) l))), (2, (.d (eU32 (0 : Int))))] [] [] hmx (by kernel_rfl) good_nil ?_
  refine aw_seq ?_
  refine aw_seq ?_
  refine rg (Z := Zt) 0 0 [(1, .op (.val (.d (eI64 (l.length : Int)))))] [.op (xLen Pg 47 (.d ((eL eI64) l)))] [(2, (.d (eU32 (0 : Int)))), (5, (.d ((eL eI64) l))), (6, (.d (eI64 (l.length : Int)))), (7, (.d (eI64 (0 : Int))))] [] [] hmx (by kernel_rfl) (good_op (len_d (e := 3) (by kernel_rfl)) good_nil) ?_
  refine aw_block ?_
  refine aw_loop (fun μ σ => ∃ (v7 : Int) (v8 : Int), μ ≤ n ∧ mask_of_L1 μ l v7 v8 = some r ∧ Wk B σ (st Tryz.f138.ntmps [(2, (.d (eU32 v7))), (5, (.d ((eL eI64) l))), (6, (.d (eI64 (l.length : Int)))), (7, (.d (eI64 v8)))] [] [])) n ⟨(0 : Int), (0 : Int), Nat.le_refl _, hg, (Wk.refl _)⟩ ?_
  rintro μ σ ⟨v7, v8, hle, hg, hwk⟩
  refine aw_wk hwk ?_
  clear hwk
  cases μ with
  | zero => exact absurd (show none = some r from hg) (by simp)
  | succ n =>
    refine aw_seq ?_
    refine rg (Z := Zt) 0 0 [] [] [(2, (.d (eU32 v7))), (5, (.d ((eL eI64) l))), (6, (.d (eI64 (l.length : Int)))), (7, (.d (eI64 v8))), (8, (.d (eB (decide (v8 < (l.length : Int))))))] [] [] hmx (by kernel_rfl) good_nil ?_
    refine aw_seq ?_
    rcases Bool.eq_false_or_eq_true (decide (v8 < (l.length : Int))) with h15 | h15
    · have hg := ite_t hg h15
      refine cd_t h15 (by kernel_rfl) ?_
      refine aw_skip ?_
      refine aw_seq ?_
      refine aw_block ?_
      refine aw_seq ?_
      obtain ⟨h16, hg⟩ := chk_o hg
      refine rg (Z := Zt) 0 0 [(0, .op (.val (.kp (eI64 (gt l v8)))))] [.op (xIdA Pg 47 (.d ((eL eI64) l)) (.d (eI64 v8)))] [(2, (.d (eU32 v7))), (4, (.d (eI64 (gt l v8)))), (5, (.d ((eL eI64) l))), (6, (.d (eI64 (l.length : Int)))), (7, (.d (eI64 v8)))] [] [] hmx (by kernel_rfl) (good_op (idx_d (s := 1) (b := false) (by_ := 8) (by kernel_rfl) (fun _ => rfl) h16) good_nil) ?_
      refine aw_seq ?_
      obtain ⟨x17, h18, hg⟩ := let_o hg
      refine rg (Z := Zt) 0 0 [(1, .vf (.d (eB x17)))] [.vf 203 [(.d (eI64 (gt l v8)))]] [(2, (.d (eU32 v7))), (4, (.d (eI64 (gt l v8)))), (5, (.d ((eL eI64) l))), (6, (.d (eI64 (l.length : Int)))), (7, (.d (eI64 v8))), (12, (.d (eB x17)))] [] [] hmx (by kernel_rfl) (good_vf (t_mask_there h18) rfl rfl good_nil) ?_
      rcases Bool.eq_false_or_eq_true x17 with h19 | h19
      · have hg := ite_t hg h19
        refine cd_t h19 (by kernel_rfl) ?_
        obtain ⟨h20, hg⟩ := chk_o hg
        refine rg (Z := Zt) 0 0 [(2, .op (.val (.d (eU32 (shlU32 (1 : Int) (gt l v8))))))] [.op (xBin Pg .shl 35 (.d (eU32 (1 : Int))) (.d (eI64 (gt l v8))))] [(2, (.d (eU32 (orU32 v7 (shlU32 (1 : Int) (gt l v8)))))), (5, (.d ((eL eI64) l))), (6, (.d (eI64 (l.length : Int)))), (7, (.d (eI64 v8)))] [] [] hmx (by kernel_rfl) (good_op (shl_ok h20) good_nil) ?_
        refine rg (Z := Zt) 0 0 [] [] [(2, (.d (eU32 (orU32 v7 (shlU32 (1 : Int) (gt l v8)))))), (5, (.d ((eL eI64) l))), (6, (.d (eI64 (l.length : Int)))), (7, (.d (eI64 (wI64 (v8 + (1 : Int))))))] [] [] hmx (by kernel_rfl) good_nil ?_
        exact ⟨n, by omega, (orU32 v7 (shlU32 (1 : Int) (gt l v8))), (wI64 (v8 + (1 : Int))), by omega, hg, (Wk.refl _)⟩
      · have hg := ite_f hg h19
        refine cd_f h19 (by kernel_rfl) ?_
        refine aw_skip ?_
        refine rg (Z := Zt) 0 0 [] [] [(2, (.d (eU32 v7))), (5, (.d ((eL eI64) l))), (6, (.d (eI64 (l.length : Int)))), (7, (.d (eI64 (wI64 (v8 + (1 : Int))))))] [] [] hmx (by kernel_rfl) good_nil ?_
        exact ⟨n, by omega, v7, (wI64 (v8 + (1 : Int))), by omega, hg, (Wk.refl _)⟩
    · have hg := ite_f hg h15
      refine cd_f h15 (by kernel_rfl) ?_
      refine aw_exit ?_
      refine aw_seq ?_
      refine rg (Z := Zt) 0 0 [] [] [(2, (.d (eU32 v7)))] [] [] hmx (by kernel_rfl) good_nil ?_
      refine aw_ret ?_
      have hg := some_o hg
      subst hg
      exact lv_r [true] [] (by kernel_rfl)

/- mask.Set -/
def mask_Set (n : Nat) (m : Int) (l : (List Int)) : Option Int :=
  (Bnd (mask_of n l) fun x1 => (some (orU32 m x1)))
theorem t_mask_Set {n : Nat} {m : Int} {l : (List Int)} {r : Int} (hg : mask_Set n m l = some r) : VF Pg 73 [(.d (eU32 m)), (.d ((eL eI64) l))] (single [(.d (eU32 r))]) := by
  refine fn_ok (fn := Tryz.f73) (by kernel_rfl) rfl (by kernel_rfl) (Nat.le_of_ble_eq_true (by kernel_rfl)) fun B hB => ?_
  refine aw_seq ?_
  refine rg (Z := Zt) 0 0 [] [] [(0, (.d (eU32 m))), (1, (.d ((eL eI64) l)))] [] [] hmx (by kernel_rfl) good_nil ?_
  refine aw_seq ?_
  obtain ⟨x1, h2, hg⟩ := bnd_o hg
  refine rg (Z := Zt) 0 0 [(2, .vf (.d (eU32 x1)))] [.vf 138 [(.d ((eL eI64) l))]] [(4, (.d (eU32 (orU32 m x1))))] [] [] hmx (by kernel_rfl) (good_vf (t_mask_of h2) rfl rfl good_nil) ?_
  refine aw_ret ?_
  have hg := some_o hg
  subst hg
  exact lv_r [true] [] (by kernel_rfl)

/- mask.All -/
def mask_All (blocks : Int) : Option Int :=
  (Let (mask_there (wI64 (blocks - (1 : Int)))) fun x1 => (bif (!x1) then (some (0 : Int)) else (Chk (decide (0 ≤ blocks)) (some (wU32 ((shlU32 (1 : Int) blocks) - (1 : Int)))))))
theorem t_mask_All {blocks : Int} {r : Int} (hg : mask_All blocks = some r) : VF Pg 264 [(.d (eI64 blocks))] (single [(.d (eU32 r))]) := by
  refine fn_ok (fn := Tryz.f264) (by kernel_rfl) rfl (by kernel_rfl) (Nat.le_of_ble_eq_true (by kernel_rfl)) fun B hB => ?_
  refine aw_seq ?_
  refine rg (Z := Zt) 0 0 [] [] [(0, (.d (eI64 blocks)))] [] [] hmx (by kernel_rfl) good_nil ?_
  refine aw_seq ?_
  refine aw_seq ?_
  obtain ⟨x1, h2, hg⟩ := let_o hg
  refine rg (Z := Zt) 0 0 [(2, .vf (.d (eB x1)))] [.vf 203 [(.d (eI64 (wI64 (blocks - (1 : Int)))))]] [(0, (.d (eI64 blocks))), (6, (.d (eB (!x1))))] [] [] hmx (by kernel_rfl) (good_vf (t_mask_there h2) rfl rfl good_nil) ?_
  rcases Bool.eq_false_or_eq_true (!x1) with h3 | h3
  · have hg := ite_t hg h3
    refine cd_t h3 (by kernel_rfl) ?_
    refine aw_seq ?_
    refine rg (Z := Zt) 0 0 [] [] [(2, (.d (eU32 (0 : Int))))] [] [] hmx (by kernel_rfl) good_nil ?_
    refine aw_ret ?_
    have hg := some_o hg
    subst hg
    exact lv_r [true] [] (by kernel_rfl)
  · have hg := ite_f hg h3
    refine cd_f h3 (by kernel_rfl) ?_
    refine aw_skip ?_
    refine aw_seq ?_
    obtain ⟨h4, hg⟩ := chk_o hg
    refine rg (Z := Zt) 0 0 [(1, .op (.val (.d (eU32 (shlU32 (1 : Int) blocks)))))] [.op (xBin Pg .shl 35 (.d (eU32 (1 : Int))) (.d (eI64 blocks)))] [(2, (.d (eU32 (wU32 ((shlU32 (1 : Int) blocks) - (1 : Int))))))] [] [] hmx (by kernel_rfl) (good_op (shl_ok h4) good_nil) ?_
    refine aw_ret ?_
    have hg := some_o hg
    subst hg
    exact lv_r [true] [] (by kernel_rfl)

/- mask.Right -/
def mask_Right (m : Int) (blocks : Int) : Option Bool :=
  (Let (mask_there (wI64 (blocks - (1 : Int)))) fun x1 => (bif x1 then (Bnd (mask_All blocks) fun x4 => (some ((andnotU32 m x4) == (0 : Int)))) else (some false)))
theorem t_mask_Right {m : Int} {blocks : Int} {r : Bool} (hg : mask_Right m blocks = some r) : VF Pg 205 [(.d (eU32 m)), (.d (eI64 blocks))] (single [(.d (eB r))]) := by
  refine fn_ok (fn := Tryz.f205) (by kernel_rfl) rfl (by kernel_rfl) (Nat.le_of_ble_eq_true (by kernel_rfl)) fun B hB => ?_
  refine aw_seq ?_
  refine rg (Z := Zt) 0 0 [] [] [(0, (.d (eU32 m))), (1, (.d (eI64 blocks)))] [] [] hmx (by kernel_rfl) good_nil ?_
  refine aw_seq ?_
  obtain ⟨x1, h2, hg⟩ := let_o hg
  rcases Bool.eq_false_or_eq_true x1 with h3 | h3
  · have hg := ite_t hg h3
    obtain ⟨x4, h5, hg⟩ := bnd_o hg
    refine rg (Z := Zt) 0 0 [(2, .vf (.d (eB x1))), (3, .op (.val (.d (eB true)))), (6, .vf (.d (eU32 x4)))] [.vf 203 [(.d (eI64 (wI64 (blocks - (1 : Int)))))], .op (some (.val (.d (eB x1)))), .vf 264 [(.d (eI64 blocks))]] [(4, (.d (eB ((andnotU32 m x4) == (0 : Int)))))] [] [] hmx (by kernel_rfl) (good_vf (t_mask_there h2) rfl rfl (good_op (bo h3) (good_vf (t_mask_All h5) rfl rfl good_nil))) ?_
    refine aw_ret ?_
    have hg := some_o hg
    subst hg
    exact lv_r [true] [] (by kernel_rfl)
  · have hg := ite_f hg h3
    refine rg (Z := Zt) 0 0 [(2, .vf (.d (eB x1))), (3, .op (.val (.d (eB false))))] [.vf 203 [(.d (eI64 (wI64 (blocks - (1 : Int)))))], .op (some (.val (.d (eB x1))))] [(4, (.d (eB false)))] [] [] hmx (by kernel_rfl) (good_vf (t_mask_there h2) rfl rfl (good_op (bo h3) good_nil)) ?_
    refine aw_ret ?_
    have hg := some_o hg
    subst hg
    exact lv_r [true] [] (by kernel_rfl)

/- bits.right -/
def bits_right (d : Disk) (m : Int) : Option Bool :=
  (Bnd (mask_Right m (wI64 ((d.sure.length : Int) - (2 : Int)))) fun x1 => (some x1))
theorem t_bits_right {d : Disk} {m : Int} {r : Bool} (hg : bits_right d m = some r) : VF Pg 140 [(.d (eDisk d)), (.d (eU32 m))] (single [(.d (eB r))]) := by
  refine fn_ok (fn := Tryz.f140) (by kernel_rfl) rfl (by kernel_rfl) (Nat.le_of_ble_eq_true (by kernel_rfl)) fun B hB => ?_
  refine aw_seq ?_
  refine rg (Z := Zt) 1 0 [] [] [(1, (.d (eU32 m))), (2, (.ptr 0 0))] [(.var (.d (eDisk d)))] [] hmx (by kernel_rfl) good_nil ?_
  refine aw_seq ?_
  obtain ⟨x1, h2, hg⟩ := bnd_o hg
  refine rg (Z := Zt) 0 0 [(3, .op (.val (.d (eI64 (d.sure.length : Int))))), (5, .vf (.d (eB x1)))] [.op (xLen Pg 25 (.d ((eL eS) d.sure))), .vf 205 [(.d (eU32 m)), (.d (eI64 (wI64 ((d.sure.length : Int) - (2 : Int)))))]] [(4, (.d (eB x1)))] [(.var (.d (eDisk d)))] [] hmx (by kernel_rfl) (good_op (len_d (e := 9) (by kernel_rfl)) (good_vf (t_mask_Right h2) rfl rfl good_nil)) ?_
  refine aw_ret ?_
  have hg := some_o hg
  subst hg
  exact lv_r [true] [] (by kernel_rfl)

/- disk.Crash -/
def disk_Crash (d : Disk) : Disk :=
  (Disk.mk d.sure d.cache (0 : Int) true)
theorem t_disk_Crash {d : Disk} {r : Disk} (hg : disk_Crash d = r) : VF Pg 103 [(.d (eDisk d))] (single [(.d (eDisk r))]) := by
  refine fn_ok (fn := Tryz.f103) (by kernel_rfl) rfl (by kernel_rfl) (Nat.le_of_ble_eq_true (by kernel_rfl)) fun B hB => ?_
  refine aw_seq ?_
  refine rg (Z := Zt) 2 0 [] [] [(1, (.ptr 0 0)), (2, (.ptr 1 0))] [(.var (.d (eDisk d))), (.var (.agg [(.full (([] : (List Str)).map eS)), (.full (([] : (List Write)).map eWrite)), (.d (eI64 (0 : Int))), (.d (eB false))]))] [] hmx (by kernel_rfl) good_nil ?_
  refine aw_seq ?_
  refine rg (Z := Zt) 0 0 [] [] [(1, (.ptr 0 0)), (2, (.ptr 1 0))] [(.var (.d (eDisk (Disk.mk d.sure d.cache (0 : Int) true)))), (.var (.agg [(.full (([] : (List Str)).map eS)), (.full (([] : (List Write)).map eWrite)), (.d (eI64 (0 : Int))), (.d (eB false))]))] [] hmx (by kernel_rfl) good_nil ?_
  refine aw_seq ?_
  refine rg (Z := Zt) 0 0 [] [] [(2, (.ptr 1 0))] [(.var (.d (eDisk (Disk.mk d.sure d.cache (0 : Int) true)))), (.var (.d (eDisk (Disk.mk d.sure d.cache (0 : Int) true))))] [] hmx (by kernel_rfl) good_nil ?_
  refine aw_ret ?_
  subst hg
  exact lv_r [true] [] (by kernel_rfl)

/- disk.burn -/
def disk_burn (d : Disk) : (Int × Disk) :=
  (bif (d.fuse == (0 : Int)) then ((0 : Int), d) else (bif (d.fuse == (1 : Int)) then (Let (disk_Crash d) fun x3 => ((6 : Int), x3)) else ((0 : Int), (Disk.mk d.sure d.cache (wI64 (d.fuse - (1 : Int))) d.dead))))
theorem t_disk_burn {d : Disk} {r : (Int × Disk)} (hg : disk_burn d = r) : CallOK Pg 204 [(.ptr 0 0)] [(.var (.d (eDisk d)))] [] (single [(.d (eI64 r.1))]) [(.var (.d (eDisk r.2)))] [] := by
  refine fn_ok (fn := Tryz.f204) (by kernel_rfl) rfl (by kernel_rfl) (Nat.le_of_ble_eq_true (by kernel_rfl)) fun B hB => ?_
  refine aw_seq ?_
  refine rg (Z := Zt) 0 0 [] [] [(0, (.ptr 0 0))] [(.var (.d (eDisk d)))] [] hmx (by kernel_rfl) good_nil ?_
  refine aw_seq ?_
  refine aw_seq ?_
  refine rg (Z := Zt) 0 0 [] [] [(0, (.ptr 0 0)), (6, (.d (eI64 d.fuse)))] [(.var (.d (eDisk d)))] [] hmx (by kernel_rfl) good_nil ?_
  refine aw_block ?_
  refine aw_seq ?_
  refine rg (Z := Zt) 0 0 [] [] [(0, (.ptr 0 0)), (6, (.d (eI64 d.fuse))), (7, (.d (eB (d.fuse == (0 : Int)))))] [(.var (.d (eDisk d)))] [] hmx (by kernel_rfl) good_nil ?_
  rcases Bool.eq_false_or_eq_true (d.fuse == (0 : Int)) with h1 | h1
  · have hg := ite_t hg h1
    refine cd_t h1 (by kernel_rfl) ?_
    refine aw_seq ?_
    refine rg (Z := Zt) 0 0 [] [] [(2, (.d (eI64 (0 : Int))))] [(.var (.d (eDisk d)))] [] hmx (by kernel_rfl) good_nil ?_
    refine aw_ret ?_
    subst hg
    exact lv_r [true] [] (by kernel_rfl)
  · have hg := ite_f hg h1
    refine cd_f h1 (by kernel_rfl) ?_
    refine aw_seq ?_
    refine rg (Z := Zt) 0 0 [] [] [(0, (.ptr 0 0)), (9, (.d (eB (d.fuse == (1 : Int)))))] [(.var (.d (eDisk d)))] [] hmx (by kernel_rfl) good_nil ?_
    rcases Bool.eq_false_or_eq_true (d.fuse == (1 : Int)) with h2 | h2
    · have hg := ite_t hg h2
      refine cd_t h2 (by kernel_rfl) ?_
      refine aw_seq ?_
      obtain ⟨x3, h4, hg⟩ := let_o hg
      refine rg (Z := Zt) 0 0 [(4, .vf (.d (eDisk x3)))] [.vf 103 [(.d (eDisk d))]] [] [(.var (.d (eDisk x3)))] [] hmx (by kernel_rfl) (good_vf (t_disk_Crash h4) rfl rfl good_nil) ?_
      refine aw_seq ?_
      refine rg (Z := Zt) 0 0 [] [] [(2, (.d (eI64 (6 : Int))))] [(.var (.d (eDisk x3)))] [] hmx (by kernel_rfl) good_nil ?_
      refine aw_ret ?_
      subst hg
      exact lv_r [true] [] (by kernel_rfl)
    · have hg := ite_f hg h2
      refine cd_f h2 (by kernel_rfl) ?_
      refine aw_skip ?_
      refine aw_seq ?_
      refine rg (Z := Zt) 0 0 [] [] [] [(.var (.d (eDisk (Disk.mk d.sure d.cache (wI64 (d.fuse - (1 : Int))) d.dead))))] [] hmx (by kernel_rfl) good_nil ?_
      refine aw_seq ?_
      refine rg (Z := Zt) 0 0 [] [] [(2, (.d (eI64 (0 : Int))))] [(.var (.d (eDisk (Disk.mk d.sure d.cache (wI64 (d.fuse - (1 : Int))) d.dead))))] [] hmx (by kernel_rfl) good_nil ?_
      refine aw_ret ?_
      subst hg
      exact lv_r [true] [] (by kernel_rfl)
end Go.Am
