/- Printed by geng.py: functions of the program as Lean functions, with the proofs that the code comes to them. -/
import Derived.Test.YtbhgeilmhknnaaaGreatDoorAmF4
namespace Go.Am
open Go.Proofs
set_option maxRecDepth 100000
/- area.there -/
def area_there (d : Disk) (i : Int) : Bool :=
  (bif (decide (i ≥ (0 : Int))) then (decide (i < (wI64 ((d.sure.length : Int) - (2 : Int))))) else false)
theorem t_area_there {d : Disk} {i : Int} {r : Bool} (hg : area_there d i = r) : VF Pg 186 [(.d (eDisk d)), (.d (eI64 i))] (single [(.d (eB r))]) := by
  refine fn_ok (fn := Tryz.f186) (by kernel_rfl) rfl (by kernel_rfl) (Nat.le_of_ble_eq_true (by kernel_rfl)) fun B hB => ?_
  refine aw_seq ?_
  refine rg (Z := Zt) 1 0 [] [] [(1, (.d (eI64 i))), (2, (.ptr 0 0))] [(.var (.d (eDisk d)))] [] hmx (by kernel_rfl) good_nil ?_
  refine aw_seq ?_
  rcases Bool.eq_false_or_eq_true (decide (i ≥ (0 : Int))) with h1 | h1
  · have hg := ite_t hg h1
    refine rg (Z := Zt) 0 0 [(2, .op (.val (.d (eB true)))), (6, .op (.val (.d (eI64 (d.sure.length : Int)))))] [.op (some (.val (.d (eB (decide (i ≥ (0 : Int))))))), .op (xLen Pg 25 (.d ((eL eS) d.sure)))] [(4, (.d (eB (decide (i < (wI64 ((d.sure.length : Int) - (2 : Int))))))))] [(.var (.d (eDisk d)))] [] hmx (by kernel_rfl) (good_op (bo h1) (good_op (len_d (e := 9) (by kernel_rfl)) good_nil)) ?_
    refine aw_ret ?_
    subst hg
    exact lv_r [true] [] (by kernel_rfl)
  · have hg := ite_f hg h1
    refine rg (Z := Zt) 0 0 [(2, .op (.val (.d (eB false))))] [.op (some (.val (.d (eB (decide (i ≥ (0 : Int)))))))] [(4, (.d (eB false)))] [(.var (.d (eDisk d)))] [] hmx (by kernel_rfl) (good_op (bo h1) good_nil) ?_
    refine aw_ret ?_
    subst hg
    exact lv_r [true] [] (by kernel_rfl)

/- area.Read -/
def area_Read (d : Disk) (i : Int) : Option (Str × Int) :=
  (Let (area_there d i) fun x1 => (bif (!x1) then (some (([] : Str), (4 : Int))) else (Bnd (disk_Read d (wI64 (i + (2 : Int)))) fun x4 => (bif (x4.2 != (0 : Int)) then (some (([] : Str), x4.2)) else (bif ((x4.1.length : Int) != (8 : Int)) then (some (([] : Str), (2 : Int))) else (some (x4.1, (0 : Int))))))))
theorem t_area_Read {d : Disk} {i : Int} {r : (Str × Int)} (hg : area_Read d i = some r) : VF Pg 121 [(.d (eDisk d)), (.d (eI64 i))] (single [(.d (eS r.1)), (.d (eI64 r.2))]) := by
  refine fn_ok (fn := Tryz.f121) (by kernel_rfl) rfl (by kernel_rfl) (Nat.le_of_ble_eq_true (by kernel_rfl)) fun B hB => ?_
  refine aw_seq ?_
  refine rg (Z := Zt) 1 0 [] [] [(1, (.d (eI64 i))), (2, (.ptr 0 0))] [(.var (.d (eDisk d)))] [] hmx (by kernel_rfl) good_nil ?_
  refine aw_seq ?_
  refine aw_seq ?_
  obtain ⟨x1, h2, hg⟩ := let_o hg
  refine rg (Z := Zt) 0 0 [(2, .vf (.d (eB x1)))] [.vf 186 [(.d (eDisk d)), (.d (eI64 i))]] [(1, (.d (eI64 i))), (2, (.ptr 0 0)), (11, (.d (eB (!x1))))] [(.var (.d (eDisk d)))] [] hmx (by kernel_rfl) (good_vf (t_area_there h2) rfl rfl good_nil) ?_
  rcases Bool.eq_false_or_eq_true (!x1) with h3 | h3
  · have hg := ite_t hg h3
    refine cd_t h3 (by kernel_rfl) ?_
    refine aw_seq ?_
    refine rg (Z := Zt) 0 0 [] [] [(4, (.d (eS ([] : Str)))), (5, (.d (eI64 (4 : Int))))] [(.var (.d (eDisk d)))] [] hmx (by kernel_rfl) good_nil ?_
    refine aw_ret ?_
    have hg := some_o hg
    subst hg
    exact lv_r [true, true] [] (by kernel_rfl)
  · have hg := ite_f hg h3
    refine cd_f h3 (by kernel_rfl) ?_
    refine aw_skip ?_
    refine aw_seq ?_
    obtain ⟨x4, h5, hg⟩ := bnd_o hg
    refine rg (Z := Zt) 0 0 [(3, .vf (.tup [(.d (eS x4.1)), (.d (eI64 x4.2))]))] [.vf 144 [(.d (eDisk d)), (.d (eI64 (wI64 (i + (2 : Int)))))]] [(6, (.d (eS x4.1))), (7, (.d (eI64 x4.2)))] [(.var (.d (eDisk d)))] [] hmx (by kernel_rfl) (good_vf (t_disk_Read h5) rfl rfl good_nil) ?_
    refine aw_seq ?_
    refine aw_block ?_
    refine aw_seq ?_
    refine rg (Z := Zt) 0 0 [] [] [(6, (.d (eS x4.1))), (7, (.d (eI64 x4.2))), (19, (.d (eB (x4.2 != (0 : Int)))))] [(.var (.d (eDisk d)))] [] hmx (by kernel_rfl) good_nil ?_
    rcases Bool.eq_false_or_eq_true (x4.2 != (0 : Int)) with h6 | h6
    · have hg := ite_t hg h6
      refine cd_t h6 (by kernel_rfl) ?_
      refine aw_seq ?_
      refine rg (Z := Zt) 0 0 [] [] [(4, (.d (eS ([] : Str)))), (5, (.d (eI64 x4.2)))] [(.var (.d (eDisk d)))] [] hmx (by kernel_rfl) good_nil ?_
      refine aw_ret ?_
      have hg := some_o hg
      subst hg
      exact lv_r [true, true] [] (by kernel_rfl)
    · have hg := ite_f hg h6
      refine cd_f h6 (by kernel_rfl) ?_
      refine aw_seq ?_
      refine rg (Z := Zt) 0 0 [] [] [(6, (.d (eS x4.1))), (23, (.d (eB ((x4.1.length : Int) != (8 : Int)))))] [(.var (.d (eDisk d)))] [] hmx (by kernel_rfl) good_nil ?_
      rcases Bool.eq_false_or_eq_true ((x4.1.length : Int) != (8 : Int)) with h7 | h7
      · have hg := ite_t hg h7
        refine cd_t h7 (by kernel_rfl) ?_
        refine aw_seq ?_
        refine rg (Z := Zt) 0 0 [] [] [(4, (.d (eS ([] : Str)))), (5, (.d (eI64 (2 : Int))))] [(.var (.d (eDisk d)))] [] hmx (by kernel_rfl) good_nil ?_
        refine aw_ret ?_
        have hg := some_o hg
        subst hg
        exact lv_r [true, true] [] (by kernel_rfl)
      · have hg := ite_f hg h7
        refine cd_f h7 (by kernel_rfl) ?_
        refine aw_skip ?_
        refine aw_seq ?_
        refine rg (Z := Zt) 0 0 [] [] [(4, (.d (eS x4.1))), (5, (.d (eI64 (0 : Int))))] [(.var (.d (eDisk d)))] [] hmx (by kernel_rfl) good_nil ?_
        refine aw_ret ?_
        have hg := some_o hg
        subst hg
        exact lv_r [true, true] [] (by kernel_rfl)

/- area.All -/
def area_All_L1 (n : Nat) (d : Disk) (v5 : (List Str)) (v6 : Int) : Option ((List Str) × Int) :=
  match n with
  | 0 => none
  | n + 1 => (bif (decide (v6 < (mx2 (wI64 ((d.sure.length : Int) - (2 : Int))) (0 : Int)))) then (Bnd (area_Read d v6) fun x13 => (bif (x13.2 != (0 : Int)) then (some (([] : (List Str)), x13.2)) else (Chk (appOK v5.length 1 16) (area_All_L1 n d (v5 ++ ([x13.1] : (List Str))) (wI64 (v6 + (1 : Int))))))) else (some (v5, (0 : Int))))
def area_All (n : Nat) (d : Disk) : Option ((List Str) × Int) :=
  (area_All_L1 n d ([] : (List Str)) (0 : Int))
theorem t_area_All {n : Nat} {d : Disk} {r : ((List Str) × Int)} (hg : area_All n d = some r) : VF Pg 79 [(.d (eDisk d))] (single [(.d ((eL eS) r.1)), (.d (eI64 r.2))]) := by
  refine fn_ok (fn := Tryz.f79) (by kernel_rfl) rfl (by kernel_rfl) (Nat.le_of_ble_eq_true (by kernel_rfl)) fun B hB => ?_
  refine aw_seq ?_
  refine rg (Z := Zt) 1 0 [] [] [(1, (.ptr 0 0))] [(.var (.d (eDisk d)))] [] hmx (by kernel_rfl) good_nil ?_
  refine aw_seq ?_
  refine rg (Z := Zt) 0 0 [] [] [(1, (.ptr 0 0)), (4, (.full (([] : (List Str)).map eS)))] [(.var (.d (eDisk d)))] [] hmx (by kernel_rfl) good_nil ?_
  refine aw_seq ?_
  refine aw_seq ?_
  refine rg (Z := Zt) 0 0 [(2, .op (.val (.d (eI64 (d.sure.length : Int)))))] [.op (xLen Pg 25 (.d ((eL eS) d.sure)))] [(1, (.ptr 0 0)), (4, (.full (([] : (List Str)).map eS))), (12, (.d (eI64 (mx2 (wI64 ((d.sure.length : Int) - (2 : Int))) (0 : Int))))), (13, (.d (eI64 (0 : Int))))] [(.var (.d (eDisk d)))] [] hmx (by kernel_rfl) (good_op (len_d (e := 9) (by kernel_rfl)) good_nil) ?_
  refine aw_block ?_
  refine aw_loop (fun μ σ => ∃ (v5 : (List Str)) (v6 : Int), μ ≤ n ∧ area_All_L1 μ d v5 v6 = some r ∧ Wk B σ (st Tryz.f79.ntmps [(1, (.ptr 0 0)), (4, (.own (v5.map eS) 0)), (12, (.d (eI64 (mx2 (wI64 ((d.sure.length : Int) - (2 : Int))) (0 : Int))))), (13, (.d (eI64 v6)))] [(.var (.d (eDisk d)))] [(some v5.length)])) n ⟨([] : (List Str)), (0 : Int), Nat.le_refl _, hg, (Wk.trans (wk_room 1) (wk_adopt (l := [(1, (.ptr 0 0)), (4, (.own (([] : (List Str)).map eS) 0)), (12, (.d (eI64 (mx2 (wI64 ((d.sure.length : Int) - (2 : Int))) (0 : Int))))), (13, (.d (eI64 (0 : Int))))]) (k := [(some 0)]) 4 0 (([] : (List Str)).map eS) (by kernel_rfl)))⟩ ?_
  rintro μ σ ⟨v5, v6, hle, hg, hwk⟩
  refine aw_wk hwk ?_
  clear hwk
  cases μ with
  | zero => exact absurd (show none = some r from hg) (by simp)
  | succ n =>
    refine aw_seq ?_
    refine rg (Z := Zt) 0 0 [] [] [(1, (.ptr 0 0)), (4, (.own (v5.map eS) 0)), (12, (.d (eI64 (mx2 (wI64 ((d.sure.length : Int) - (2 : Int))) (0 : Int))))), (13, (.d (eI64 v6))), (14, (.d (eB (decide (v6 < (mx2 (wI64 ((d.sure.length : Int) - (2 : Int))) (0 : Int)))))))] [(.var (.d (eDisk d)))] [(some v5.length)] hmx (by kernel_rfl) good_nil ?_
    refine aw_seq ?_
    rcases Bool.eq_false_or_eq_true (decide (v6 < (mx2 (wI64 ((d.sure.length : Int) - (2 : Int))) (0 : Int)))) with h12 | h12
    · have hg := ite_t hg h12
      refine cd_t h12 (by kernel_rfl) ?_
      refine aw_skip ?_
      refine aw_seq ?_
      refine aw_block ?_
      refine aw_seq ?_
      refine rg (Z := Zt) 0 0 [] [] [(1, (.ptr 0 0)), (4, (.own (v5.map eS) 0)), (5, (.d (eI64 v6))), (12, (.d (eI64 (mx2 (wI64 ((d.sure.length : Int) - (2 : Int))) (0 : Int))))), (13, (.d (eI64 v6)))] [(.var (.d (eDisk d)))] [(some v5.length)] hmx (by kernel_rfl) good_nil ?_
      refine aw_seq ?_
      obtain ⟨x13, h14, hg⟩ := bnd_o hg
      refine rg (Z := Zt) 0 0 [(2, .vf (.tup [(.d (eS x13.1)), (.d (eI64 x13.2))]))] [.vf 121 [(.d (eDisk d)), (.d (eI64 v6))]] [(1, (.ptr 0 0)), (4, (.own (v5.map eS) 0)), (6, (.d (eS x13.1))), (7, (.d (eI64 x13.2))), (12, (.d (eI64 (mx2 (wI64 ((d.sure.length : Int) - (2 : Int))) (0 : Int))))), (13, (.d (eI64 v6)))] [(.var (.d (eDisk d)))] [(some v5.length)] hmx (by kernel_rfl) (good_vf (t_area_Read h14) rfl rfl good_nil) ?_
      refine aw_seq ?_
      refine aw_seq ?_
      refine rg (Z := Zt) 0 0 [] [] [(1, (.ptr 0 0)), (4, (.own (v5.map eS) 0)), (6, (.d (eS x13.1))), (7, (.d (eI64 x13.2))), (12, (.d (eI64 (mx2 (wI64 ((d.sure.length : Int) - (2 : Int))) (0 : Int))))), (13, (.d (eI64 v6))), (23, (.d (eB (x13.2 != (0 : Int)))))] [(.var (.d (eDisk d)))] [(some v5.length)] hmx (by kernel_rfl) good_nil ?_
      rcases Bool.eq_false_or_eq_true (x13.2 != (0 : Int)) with h15 | h15
      · have hg := ite_t hg h15
        refine cd_t h15 (by kernel_rfl) ?_
        refine aw_seq ?_
        refine rg (Z := Zt) 0 0 [] [] [(2, (.full (([] : (List Str)).map eS))), (3, (.d (eI64 x13.2)))] [(.var (.d (eDisk d)))] [(some v5.length)] hmx (by kernel_rfl) good_nil ?_
        refine aw_ret ?_
        have hg := some_o hg
        subst hg
        exact lv_r [true, true] [] (by kernel_rfl)
      · have hg := ite_f hg h15
        refine cd_f h15 (by kernel_rfl) ?_
        refine aw_skip ?_
        obtain ⟨h16, hg⟩ := chk_o hg
        refine rg (Z := Zt) 0 1 [(3, .op (.tok 0 (v5 ++ ([x13.1] : (List Str))).length (.own ((v5 ++ ([x13.1] : (List Str))).map eS) 0)))] [.op (evBuiltin Pg .append [25, 25] [(.own (v5.map eS) 0), (.full (([x13.1] : (List Str)).map eS))] [(some v5.length), none] 1)] [(1, (.ptr 0 0)), (4, (.own ((v5 ++ ([x13.1] : (List Str))).map eS) 0)), (12, (.d (eI64 (mx2 (wI64 ((d.sure.length : Int) - (2 : Int))) (0 : Int))))), (13, (.d (eI64 v6)))] [(.var (.d (eDisk d)))] [(some (v5 ++ ([x13.1] : (List Str))).length), none] hmx (by kernel_rfl) (good_op (app_own (s := 1) (b := false) (by_ := 16) (s' := 1) (b' := false) (y' := 16) (l := v5) (m := ([x13.1] : (List Str))) (f := eS) (by kernel_rfl) (by kernel_rfl) (by kernel_rfl) (by decide) (fun _ => rfl) rfl rfl h16) good_nil) ?_
        refine rg (Z := Zt) 0 0 [] [] [(1, (.ptr 0 0)), (4, (.own ((v5 ++ ([x13.1] : (List Str))).map eS) 0)), (12, (.d (eI64 (mx2 (wI64 ((d.sure.length : Int) - (2 : Int))) (0 : Int))))), (13, (.d (eI64 (wI64 (v6 + (1 : Int))))))] [(.var (.d (eDisk d)))] [(some (v5 ++ ([x13.1] : (List Str))).length), none] hmx (by kernel_rfl) good_nil ?_
        exact ⟨n, by omega, (v5 ++ ([x13.1] : (List Str))), (wI64 (v6 + (1 : Int))), by omega, hg, (wk_cut (l := [(1, (.ptr 0 0)), (4, (.own ((v5 ++ ([x13.1] : (List Str))).map eS) 0)), (12, (.d (eI64 (mx2 (wI64 ((d.sure.length : Int) - (2 : Int))) (0 : Int))))), (13, (.d (eI64 (wI64 (v6 + (1 : Int))))))]) (h := [(.var (.d (eDisk d)))]) (k := [(some (v5 ++ ([x13.1] : (List Str))).length)]) hB 1 1 (by kernel_rfl) (by kernel_rfl))⟩
    · have hg := ite_f hg h12
      refine cd_f h12 (by kernel_rfl) ?_
      refine aw_exit ?_
      refine aw_seq ?_
      refine rg (Z := Zt) 0 0 [] [] [(2, (.own (v5.map eS) 0)), (3, (.d (eI64 (0 : Int))))] [(.var (.d (eDisk d)))] [(some v5.length)] hmx (by kernel_rfl) good_nil ?_
      refine aw_ret ?_
      have hg := some_o hg
      subst hg
      exact lv_r [true, true] [] (by kernel_rfl)

/- store.Attach -/
def store_Attach (n : Nat) (d : Disk) : Option ((Store × Int) × (Store × Int)) :=
  (Nd2 (meta_Load n d) fun x1 => (bif (x1.2 != (0 : Int)) then (some ((Store.mk (Disk.mk ([] : (List Str)) ([] : (List Write)) (0 : Int) false) (Super.mk (0 : Int) (Vector.mk (0 : Int) (0 : Int) (A2.mk (0 : Int) (0 : Int))) false false false) (0 : Int)), x1.2)) else (Bnd (bits_Load n d) fun x4 => (bif (x4.2 != (0 : Int)) then (some ((Store.mk (Disk.mk ([] : (List Str)) ([] : (List Write)) (0 : Int) false) (Super.mk (0 : Int) (Vector.mk (0 : Int) (0 : Int) (A2.mk (0 : Int) (0 : Int))) false false false) (0 : Int)), x4.2)) else (Bnd (area_All n d) fun x7 => (bif (x7.2 != (0 : Int)) then (some ((Store.mk (Disk.mk ([] : (List Str)) ([] : (List Write)) (0 : Int) false) (Super.mk (0 : Int) (Vector.mk (0 : Int) (0 : Int) (A2.mk (0 : Int) (0 : Int))) false false false) (0 : Int)), x7.2)) else (some ((Store.mk d x1.1 x4.1), (0 : Int)))))))))
theorem t_store_Attach {n : Nat} {d : Disk} {r : ((Store × Int) × (Store × Int))} (hg : store_Attach n d = some r) : VFo Pg 21 [(.d (eDisk d))] (fun b => single [(.d (eStore (sel b r).1)), (.d (eI64 (sel b r).2))]) := by
  refine fn_ok_o (fn := Tryz.f21) (rs := fun b => (fun r : (Store × Int) => [(.d (eStore r.1)), (.d (eI64 r.2))]) (sel b r)) (by kernel_rfl) rfl (by kernel_rfl) (Nat.le_of_ble_eq_true (by kernel_rfl)) fun B hB => ?_
  refine aw_seq ?_
  refine rg (Z := Zt) 2 0 [] [] [(1, (.ptr 0 0)), (2, (.ptr 1 0))] [(.var (.d (eDisk d))), (.var (.agg [(.agg [(.full (([] : (List Str)).map eS)), (.full (([] : (List Write)).map eWrite)), (.d (eI64 (0 : Int))), (.d (eB false))]), (.agg [(.d (eI64 (0 : Int))), (.agg [(.d (eU64 (0 : Int))), (.d (eU64 (0 : Int))), (.agg [(.d (eU64 (0 : Int))), (.d (eU64 (0 : Int)))])]), (.d (eB false)), (.d (eB false)), (.d (eB false))]), (.d (eU32 (0 : Int)))]))] [] hmx (by kernel_rfl) good_nil ?_
  refine aw_seq ?_
  obtain ⟨x1p, h2, hg⟩ := nd2_o hg
  refine rg_nd (Z := Zt) 1 0 1 11 [] [] [(1, (.ptr 0 0)), (2, (.ptr 1 0)), (10, (.d (eDisk d)))] [(.var (.d (eDisk d))), (.var (.agg [(.agg [(.full (([] : (List Str)).map eS)), (.full (([] : (List Write)).map eWrite)), (.d (eI64 (0 : Int))), (.d (eB false))]), (.agg [(.d (eI64 (0 : Int))), (.agg [(.d (eU64 (0 : Int))), (.d (eU64 (0 : Int))), (.agg [(.d (eU64 (0 : Int))), (.d (eU64 (0 : Int)))])]), (.d (eB false)), (.d (eB false)), (.d (eB false))]), (.d (eU32 (0 : Int)))])), .hole] [] (fun b => (.tup [(.d (eSuper (sel b x1p).1)), (.d (eI64 (sel b x1p).2))])) (by kernel_rfl) good_nil (by kernel_rfl) (t_meta_Load h2) rfl (fun _ => rfl) fun x1b => ?_
  generalize hsx1 : sel x1b x1p = x1
  have hg := hg x1b x1 hsx1.symm
  refine rg_tl (Z := Zt) 2 0 [] [] [(1, (.ptr 0 0)), (2, (.ptr 1 0)), (4, (.ptr 2 0)), (5, (.d (eI64 x1.2)))] [(.var (.d (eDisk d))), (.var (.agg [(.agg [(.full (([] : (List Str)).map eS)), (.full (([] : (List Write)).map eWrite)), (.d (eI64 (0 : Int))), (.d (eB false))]), (.agg [(.d (eI64 (0 : Int))), (.agg [(.d (eU64 (0 : Int))), (.d (eU64 (0 : Int))), (.agg [(.d (eU64 (0 : Int))), (.d (eU64 (0 : Int)))])]), (.d (eB false)), (.d (eB false)), (.d (eB false))]), (.d (eU32 (0 : Int)))])), (.var (.d (eSuper x1.1)))] [] (by kernel_rfl) good_nil ?_
  refine aw_seq ?_
  refine aw_seq ?_
  refine rg (Z := Zt) 0 0 [] [] [(1, (.ptr 0 0)), (2, (.ptr 1 0)), (4, (.ptr 2 0)), (5, (.d (eI64 x1.2))), (15, (.d (eB (x1.2 != (0 : Int)))))] [(.var (.d (eDisk d))), (.var (.agg [(.agg [(.full (([] : (List Str)).map eS)), (.full (([] : (List Write)).map eWrite)), (.d (eI64 (0 : Int))), (.d (eB false))]), (.agg [(.d (eI64 (0 : Int))), (.agg [(.d (eU64 (0 : Int))), (.d (eU64 (0 : Int))), (.agg [(.d (eU64 (0 : Int))), (.d (eU64 (0 : Int)))])]), (.d (eB false)), (.d (eB false)), (.d (eB false))]), (.d (eU32 (0 : Int)))])), (.var (.d (eSuper x1.1)))] [] hmx (by kernel_rfl) good_nil ?_
  rcases Bool.eq_false_or_eq_true (x1.2 != (0 : Int)) with h3 | h3
  · have hg := ite_t hg h3
    refine cd_t h3 (by kernel_rfl) ?_
    refine aw_seq ?_
    refine rg (Z := Zt) 0 0 [] [] [(2, (.ptr 1 0)), (3, (.d (eI64 x1.2)))] [(.var (.d (eDisk d))), (.var (.agg [(.agg [(.full (([] : (List Str)).map eS)), (.full (([] : (List Write)).map eWrite)), (.d (eI64 (0 : Int))), (.d (eB false))]), (.agg [(.d (eI64 (0 : Int))), (.agg [(.d (eU64 (0 : Int))), (.d (eU64 (0 : Int))), (.agg [(.d (eU64 (0 : Int))), (.d (eU64 (0 : Int)))])]), (.d (eB false)), (.d (eB false)), (.d (eB false))]), (.d (eU32 (0 : Int)))])), (.var (.d (eSuper x1.1)))] [] hmx (by kernel_rfl) good_nil ?_
    refine aw_ret ?_
    have hg := some_o hg
    exact lv_o (fun r : (Store × Int) => [(.d (eStore r.1)), (.d (eI64 r.2))]) (.inr rfl) hg [true, true] (by kernel_rfl)
  · have hg := ite_f hg h3
    refine cd_f h3 (by kernel_rfl) ?_
    refine aw_skip ?_
    refine aw_seq ?_
    obtain ⟨x4, h5, hg⟩ := bnd_o hg
    refine rg (Z := Zt) 0 0 [(1, .vf (.tup [(.d (eU32 x4.1)), (.d (eI64 x4.2))]))] [.vf 78 [(.d (eDisk d))]] [(1, (.ptr 0 0)), (2, (.ptr 1 0)), (4, (.ptr 2 0)), (5, (.d (eI64 x4.2))), (6, (.d (eU32 x4.1)))] [(.var (.d (eDisk d))), (.var (.agg [(.agg [(.full (([] : (List Str)).map eS)), (.full (([] : (List Write)).map eWrite)), (.d (eI64 (0 : Int))), (.d (eB false))]), (.agg [(.d (eI64 (0 : Int))), (.agg [(.d (eU64 (0 : Int))), (.d (eU64 (0 : Int))), (.agg [(.d (eU64 (0 : Int))), (.d (eU64 (0 : Int)))])]), (.d (eB false)), (.d (eB false)), (.d (eB false))]), (.d (eU32 (0 : Int)))])), (.var (.d (eSuper x1.1)))] [] hmx (by kernel_rfl) (good_vf (t_bits_Load h5) rfl rfl good_nil) ?_
    refine aw_seq ?_
    refine aw_seq ?_
    refine rg (Z := Zt) 0 0 [] [] [(1, (.ptr 0 0)), (2, (.ptr 1 0)), (4, (.ptr 2 0)), (5, (.d (eI64 x4.2))), (6, (.d (eU32 x4.1))), (24, (.d (eB (x4.2 != (0 : Int)))))] [(.var (.d (eDisk d))), (.var (.agg [(.agg [(.full (([] : (List Str)).map eS)), (.full (([] : (List Write)).map eWrite)), (.d (eI64 (0 : Int))), (.d (eB false))]), (.agg [(.d (eI64 (0 : Int))), (.agg [(.d (eU64 (0 : Int))), (.d (eU64 (0 : Int))), (.agg [(.d (eU64 (0 : Int))), (.d (eU64 (0 : Int)))])]), (.d (eB false)), (.d (eB false)), (.d (eB false))]), (.d (eU32 (0 : Int)))])), (.var (.d (eSuper x1.1)))] [] hmx (by kernel_rfl) good_nil ?_
    rcases Bool.eq_false_or_eq_true (x4.2 != (0 : Int)) with h6 | h6
    · have hg := ite_t hg h6
      refine cd_t h6 (by kernel_rfl) ?_
      refine aw_seq ?_
      refine rg (Z := Zt) 0 0 [] [] [(2, (.ptr 1 0)), (3, (.d (eI64 x4.2)))] [(.var (.d (eDisk d))), (.var (.agg [(.agg [(.full (([] : (List Str)).map eS)), (.full (([] : (List Write)).map eWrite)), (.d (eI64 (0 : Int))), (.d (eB false))]), (.agg [(.d (eI64 (0 : Int))), (.agg [(.d (eU64 (0 : Int))), (.d (eU64 (0 : Int))), (.agg [(.d (eU64 (0 : Int))), (.d (eU64 (0 : Int)))])]), (.d (eB false)), (.d (eB false)), (.d (eB false))]), (.d (eU32 (0 : Int)))])), (.var (.d (eSuper x1.1)))] [] hmx (by kernel_rfl) good_nil ?_
      refine aw_ret ?_
      have hg := some_o hg
      exact lv_o (fun r : (Store × Int) => [(.d (eStore r.1)), (.d (eI64 r.2))]) (.inr rfl) hg [true, true] (by kernel_rfl)
    · have hg := ite_f hg h6
      refine cd_f h6 (by kernel_rfl) ?_
      refine aw_skip ?_
      refine aw_seq ?_
      refine aw_seq ?_
      obtain ⟨x7, h8, hg⟩ := bnd_o hg
      refine rg (Z := Zt) 0 0 [(1, .vf (.tup [(.d ((eL eS) x7.1)), (.d (eI64 x7.2))]))] [.vf 79 [(.d (eDisk d))]] [(1, (.ptr 0 0)), (2, (.ptr 1 0)), (4, (.ptr 2 0)), (6, (.d (eU32 x4.1))), (8, (.d (eI64 x7.2)))] [(.var (.d (eDisk d))), (.var (.agg [(.agg [(.full (([] : (List Str)).map eS)), (.full (([] : (List Write)).map eWrite)), (.d (eI64 (0 : Int))), (.d (eB false))]), (.agg [(.d (eI64 (0 : Int))), (.agg [(.d (eU64 (0 : Int))), (.d (eU64 (0 : Int))), (.agg [(.d (eU64 (0 : Int))), (.d (eU64 (0 : Int)))])]), (.d (eB false)), (.d (eB false)), (.d (eB false))]), (.d (eU32 (0 : Int)))])), (.var (.d (eSuper x1.1)))] [] hmx (by kernel_rfl) (good_vf (t_area_All h8) rfl rfl good_nil) ?_
      refine aw_seq ?_
      refine rg (Z := Zt) 0 0 [] [] [(1, (.ptr 0 0)), (2, (.ptr 1 0)), (4, (.ptr 2 0)), (6, (.d (eU32 x4.1))), (8, (.d (eI64 x7.2))), (33, (.d (eB (x7.2 != (0 : Int)))))] [(.var (.d (eDisk d))), (.var (.agg [(.agg [(.full (([] : (List Str)).map eS)), (.full (([] : (List Write)).map eWrite)), (.d (eI64 (0 : Int))), (.d (eB false))]), (.agg [(.d (eI64 (0 : Int))), (.agg [(.d (eU64 (0 : Int))), (.d (eU64 (0 : Int))), (.agg [(.d (eU64 (0 : Int))), (.d (eU64 (0 : Int)))])]), (.d (eB false)), (.d (eB false)), (.d (eB false))]), (.d (eU32 (0 : Int)))])), (.var (.d (eSuper x1.1)))] [] hmx (by kernel_rfl) good_nil ?_
      rcases Bool.eq_false_or_eq_true (x7.2 != (0 : Int)) with h9 | h9
      · have hg := ite_t hg h9
        refine cd_t h9 (by kernel_rfl) ?_
        refine aw_seq ?_
        refine rg (Z := Zt) 0 0 [] [] [(2, (.ptr 1 0)), (3, (.d (eI64 x7.2)))] [(.var (.d (eDisk d))), (.var (.agg [(.agg [(.full (([] : (List Str)).map eS)), (.full (([] : (List Write)).map eWrite)), (.d (eI64 (0 : Int))), (.d (eB false))]), (.agg [(.d (eI64 (0 : Int))), (.agg [(.d (eU64 (0 : Int))), (.d (eU64 (0 : Int))), (.agg [(.d (eU64 (0 : Int))), (.d (eU64 (0 : Int)))])]), (.d (eB false)), (.d (eB false)), (.d (eB false))]), (.d (eU32 (0 : Int)))])), (.var (.d (eSuper x1.1)))] [] hmx (by kernel_rfl) good_nil ?_
        refine aw_ret ?_
        have hg := some_o hg
        exact lv_o (fun r : (Store × Int) => [(.d (eStore r.1)), (.d (eI64 r.2))]) (.inr rfl) hg [true, true] (by kernel_rfl)
      · have hg := ite_f hg h9
        refine cd_f h9 (by kernel_rfl) ?_
        refine aw_skip ?_
        refine aw_seq ?_
        refine rg (Z := Zt) 0 0 [] [] [(2, (.ptr 1 0)), (3, (.d (eI64 (0 : Int))))] [(.var (.d (eDisk d))), (.var (.agg [(.d (eDisk d)), (.d (eSuper x1.1)), (.d (eU32 x4.1))])), (.var (.d (eSuper x1.1)))] [] hmx (by kernel_rfl) good_nil ?_
        refine aw_ret ?_
        have hg := some_o hg
        exact lv_o (fun r : (Store × Int) => [(.d (eStore r.1)), (.d (eI64 r.2))]) (.inr rfl) hg [true, true] (by kernel_rfl)

/- ref04.Revive -/
def ref04_Revive_L1 (n : Nat) (d : Disk) (keeps : (List Bool)) (v11 : Int) (v12 : (List Str)) : Option Disk :=
  match n with
  | 0 => none
  | n + 1 => (bif (decide (v11 < (d.cache.length : Int))) then (bif (decide (v11 < (keeps.length : Int))) then (Chk (inR v11 keeps.length) (bif (gt keeps v11) then (Chk (inR v11 d.cache.length) (Chk (inR (gt d.cache v11).sector d.sure.length) (Chk (decide (((gt d.cache v11).sector).toNat < v12.length)) (ref04_Revive_L1 n d keeps (wI64 (v11 + (1 : Int))) (v12.set ((gt d.cache v11).sector).toNat ((gt d.cache v11).data)))))) else (ref04_Revive_L1 n d keeps (wI64 (v11 + (1 : Int))) v12))) else (Chk (decide (d.sure.length = v12.length)) (some (Disk.mk v12 ([] : (List Write)) (0 : Int) false)))) else (Chk (decide (d.sure.length = v12.length)) (some (Disk.mk v12 ([] : (List Write)) (0 : Int) false))))
def ref04_Revive (n : Nat) (d : Disk) (keeps : (List Bool)) : Option Disk :=
  (Chk (decide (d.sure.length * 16 ≤ 140737488355328) && !(d.sure.length == 0)) (ref04_Revive_L1 n d keeps (0 : Int) d.sure))
theorem t_ref04_Revive {n : Nat} {d : Disk} {keeps : (List Bool)} {r : Disk} (hg : ref04_Revive n d keeps = some r) : VF Pg 22 [(.d (eDisk d)), (.d ((eL eB) keeps))] (single [(.d (eDisk r))]) := by
  refine fn_ok (fn := Tryz.f22) (by kernel_rfl) rfl (by kernel_rfl) (Nat.le_of_ble_eq_true (by kernel_rfl)) fun B hB => ?_
  refine aw_seq ?_
  refine rg (Z := Zt) 2 0 [] [] [(1, (.d ((eL eB) keeps))), (2, (.ptr 0 0)), (4, (.ptr 1 0))] [(.var (.d (eDisk d))), (.var (.agg [(.full (([] : (List Str)).map eS)), (.full (([] : (List Write)).map eWrite)), (.d (eI64 (0 : Int))), (.d (eB false))]))] [] hmx (by kernel_rfl) good_nil ?_
  refine aw_seq ?_
  refine aw_wk (wk_hole 1) ?_
  obtain ⟨h1, hg⟩ := chk_o hg
  refine rg (Z := Zt) 0 1 [(3, .row 2 (.box 2 (.row (d.sure.map eS) 1) (.msl 2 d.sure.length)))] [.op (evAppR Pg 25 25 (.full (([] : (List Str)).map eS)) (.d ((eL eS) d.sure)) [(.var (.d (eDisk d))), (.var (.agg [(.full (([] : (List Str)).map eS)), (.full (([] : (List Write)).map eWrite)), (.d (eI64 (0 : Int))), (.d (eB false))])), .hole] 2)] [(1, (.d ((eL eB) keeps))), (2, (.ptr 0 0)), (4, (.ptr 1 0)), (5, (.msl 2 d.sure.length))] [(.var (.d (eDisk d))), (.var (.agg [(.full (([] : (List Str)).map eS)), (.full (([] : (List Write)).map eWrite)), (.d (eI64 (0 : Int))), (.d (eB false))])), (.row (d.sure.map eS) 1)] [none] hmx (by kernel_rfl) (good_row (row_app (s := 1) (b := false) (by_ := 16) (s' := 1) (b' := false) (y' := 16) (m := d.sure) (f := eS) (by kernel_rfl) (by kernel_rfl) (by decide) (fun _ => rfl) rfl rfl h1) good_nil) ?_
  refine aw_seq ?_
  refine aw_seq ?_
  refine rg (Z := Zt) 0 0 [] [] [(1, (.d ((eL eB) keeps))), (2, (.ptr 0 0)), (4, (.ptr 1 0)), (5, (.msl 2 d.sure.length)), (6, (.d (eI64 (0 : Int))))] [(.var (.d (eDisk d))), (.var (.agg [(.full (([] : (List Str)).map eS)), (.full (([] : (List Write)).map eWrite)), (.d (eI64 (0 : Int))), (.d (eB false))])), (.row (d.sure.map eS) 1)] [none] hmx (by kernel_rfl) good_nil ?_
  refine aw_block ?_
  refine aw_loop (fun μ σ => ∃ (v11 : Int) (v12 : (List Str)), μ ≤ n ∧ ref04_Revive_L1 μ d keeps v11 v12 = some r ∧ Wk B σ (st Tryz.f22.ntmps [(1, (.d ((eL eB) keeps))), (2, (.ptr 0 0)), (4, (.ptr 1 0)), (5, (.msl 2 d.sure.length)), (6, (.d (eI64 v11)))] [(.var (.d (eDisk d))), (.var (.agg [(.full (([] : (List Str)).map eS)), (.full (([] : (List Write)).map eWrite)), (.d (eI64 (0 : Int))), (.d (eB false))])), (.row (v12.map eS) 1)] [none])) n ⟨(0 : Int), d.sure, Nat.le_refl _, hg, (Wk.refl _)⟩ ?_
  rintro μ σ ⟨v11, v12, hle, hg, hwk⟩
  refine aw_wk hwk ?_
  clear hwk
  cases μ with
  | zero => exact absurd (show none = some r from hg) (by simp)
  | succ n =>
    refine aw_seq ?_
    refine aw_seq ?_
    rcases Bool.eq_false_or_eq_true (decide (v11 < (d.cache.length : Int))) with h22 | h22
    · have hg := ite_t hg h22
      refine rg (Z := Zt) 0 0 [(3, .op (.val (.d (eI64 (d.cache.length : Int))))), (5, .op (.val (.d (eB true)))), (8, .op (.val (.d (eI64 (keeps.length : Int)))))] [.op (xLen Pg 26 (.d ((eL eWrite) d.cache))), .op (some (.val (.d (eB (decide (v11 < (d.cache.length : Int))))))), .op (xLen Pg 124 (.d ((eL eB) keeps)))] [(1, (.d ((eL eB) keeps))), (2, (.ptr 0 0)), (4, (.ptr 1 0)), (5, (.msl 2 d.sure.length)), (6, (.d (eI64 v11))), (21, (.d (eB (decide (v11 < (keeps.length : Int))))))] [(.var (.d (eDisk d))), (.var (.agg [(.full (([] : (List Str)).map eS)), (.full (([] : (List Write)).map eWrite)), (.d (eI64 (0 : Int))), (.d (eB false))])), (.row (v12.map eS) 1)] [none] hmx (by kernel_rfl) (good_op (len_d (e := 126) (by kernel_rfl)) (good_op (bo h22) (good_op (len_d (e := 4) (by kernel_rfl)) good_nil))) ?_
      rcases Bool.eq_false_or_eq_true (decide (v11 < (keeps.length : Int))) with h23 | h23
      · have hg := ite_t hg h23
        refine cd_t h23 (by kernel_rfl) ?_
        refine aw_skip ?_
        refine aw_seq ?_
        refine aw_block ?_
        refine aw_seq ?_
        obtain ⟨h24, hg⟩ := chk_o hg
        refine rg (Z := Zt) 0 0 [(2, .op (.val (.kp (eB (gt keeps v11)))))] [.op (xIdA Pg 124 (.d ((eL eB) keeps)) (.d (eI64 v11)))] [(1, (.d ((eL eB) keeps))), (2, (.ptr 0 0)), (4, (.ptr 1 0)), (5, (.msl 2 d.sure.length)), (6, (.d (eI64 v11))), (27, (.d (eB (gt keeps v11))))] [(.var (.d (eDisk d))), (.var (.agg [(.full (([] : (List Str)).map eS)), (.full (([] : (List Write)).map eWrite)), (.d (eI64 (0 : Int))), (.d (eB false))])), (.row (v12.map eS) 1)] [none] hmx (by kernel_rfl) (good_op (idx_d (s := 1) (b := false) (by_ := 1) (by kernel_rfl) (fun _ => rfl) h24) good_nil) ?_
        rcases Bool.eq_false_or_eq_true (gt keeps v11) with h25 | h25
        · have hg := ite_t hg h25
          refine cd_t h25 (by kernel_rfl) ?_
          obtain ⟨h26, hg⟩ := chk_o hg
          obtain ⟨h27, hg⟩ := chk_o hg
          obtain ⟨h28, hg⟩ := chk_o hg
          refine rg (Z := Zt) 0 0 [(4, .op (.val (.kp (eWrite (gt d.cache v11))))), (10, .op (.val (.kp (eWrite (gt d.cache v11))))), (13, .op (.val (.eptr 2 ((gt d.cache v11).sector).toNat 1))), (14, .op (.box 2 (.row ((v12.set ((gt d.cache v11).sector).toNat ((gt d.cache v11).data)).map eS) 1) .any))] [.op (xIdA Pg 26 (.d ((eL eWrite) d.cache)) (.d (eI64 v11))), .op (xIdA Pg 26 (.d ((eL eWrite) d.cache)) (.d (eI64 v11))), .op (xIdA Pg 25 (.msl 2 d.sure.length) (.d (eI64 (gt d.cache v11).sector))), .op (evStore Pg 9 (.eptr 2 ((gt d.cache v11).sector).toNat 1) (.d (eS (gt d.cache v11).data)) [(.var (.d (eDisk d))), (.var (.agg [(.full (([] : (List Str)).map eS)), (.full (([] : (List Write)).map eWrite)), (.d (eI64 (0 : Int))), (.d (eB false))])), (.row (v12.map eS) 1)])] [(1, (.d ((eL eB) keeps))), (2, (.ptr 0 0)), (4, (.ptr 1 0)), (5, (.msl 2 d.sure.length)), (6, (.d (eI64 v11)))] [(.var (.d (eDisk d))), (.var (.agg [(.full (([] : (List Str)).map eS)), (.full (([] : (List Write)).map eWrite)), (.d (eI64 (0 : Int))), (.d (eB false))])), (.row ((v12.set ((gt d.cache v11).sector).toNat ((gt d.cache v11).data)).map eS) 1)] [none] hmx (by kernel_rfl) (good_op (idx_d (s := 2) (b := true) (by_ := 24) (by kernel_rfl) (fun _ => rfl) h26) (good_op (idx_d (s := 2) (b := true) (by_ := 24) (by kernel_rfl) (fun _ => rfl) h26) (good_op (idx_msl (s := 1) (b := false) (by_ := 16) (by kernel_rfl) h27) (good_op (st_row (x := (gt d.cache v11).data) (s := 1) (b := false) (by kernel_rfl) (fun _ => rfl) rfl rfl rfl h28) good_nil)))) ?_
          refine rg (Z := Zt) 0 0 [] [] [(1, (.d ((eL eB) keeps))), (2, (.ptr 0 0)), (4, (.ptr 1 0)), (5, (.msl 2 d.sure.length)), (6, (.d (eI64 (wI64 (v11 + (1 : Int))))))] [(.var (.d (eDisk d))), (.var (.agg [(.full (([] : (List Str)).map eS)), (.full (([] : (List Write)).map eWrite)), (.d (eI64 (0 : Int))), (.d (eB false))])), (.row ((v12.set ((gt d.cache v11).sector).toNat ((gt d.cache v11).data)).map eS) 1)] [none] hmx (by kernel_rfl) good_nil ?_
          exact ⟨n, by omega, (wI64 (v11 + (1 : Int))), (v12.set ((gt d.cache v11).sector).toNat ((gt d.cache v11).data)), by omega, hg, (Wk.refl _)⟩
        · have hg := ite_f hg h25
          refine cd_f h25 (by kernel_rfl) ?_
          refine aw_skip ?_
          refine rg (Z := Zt) 0 0 [] [] [(1, (.d ((eL eB) keeps))), (2, (.ptr 0 0)), (4, (.ptr 1 0)), (5, (.msl 2 d.sure.length)), (6, (.d (eI64 (wI64 (v11 + (1 : Int))))))] [(.var (.d (eDisk d))), (.var (.agg [(.full (([] : (List Str)).map eS)), (.full (([] : (List Write)).map eWrite)), (.d (eI64 (0 : Int))), (.d (eB false))])), (.row (v12.map eS) 1)] [none] hmx (by kernel_rfl) good_nil ?_
          exact ⟨n, by omega, (wI64 (v11 + (1 : Int))), v12, by omega, hg, (Wk.refl _)⟩
      · have hg := ite_f hg h23
        refine cd_f h23 (by kernel_rfl) ?_
        refine aw_exit ?_
        refine aw_seq ?_
        obtain ⟨h29, hg⟩ := chk_o hg
        refine aw_wk (wk_frz (l1 := [(1, (.d ((eL eB) keeps))), (2, (.ptr 0 0)), (4, (.ptr 1 0)), (5, (.d ((eL eS) v12))), (6, (.d (eI64 v11))), (21, (.d (eB (decide (v11 < (keeps.length : Int))))))]) (h := [(.var (.d (eDisk d))), (.var (.agg [(.full (([] : (List Str)).map eS)), (.full (([] : (List Write)).map eWrite)), (.d (eI64 (0 : Int))), (.d (eB false))])), (.fz (.agg (v12.map eS)))]) 5 2 1 d.sure.length (v12.map eS) (by rw [List.length_map]; exact of_decide_eq_true h29) (by kernel_rfl)) ?_
        refine rg (Z := Zt) 0 0 [] [] [(4, (.ptr 1 0))] [(.var (.d (eDisk d))), (.var (.agg [(.d ((eL eS) v12)), (.full (([] : (List Write)).map eWrite)), (.d (eI64 (0 : Int))), (.d (eB false))])), (.fz (.agg (v12.map eS)))] [none] hmx (by kernel_rfl) good_nil ?_
        refine aw_ret ?_
        have hg := some_o hg
        subst hg
        exact lv_r [true] [] (by kernel_rfl)
    · have hg := ite_f hg h22
      refine rg (Z := Zt) 0 0 [(3, .op (.val (.d (eI64 (d.cache.length : Int))))), (5, .op (.val (.d (eB false))))] [.op (xLen Pg 26 (.d ((eL eWrite) d.cache))), .op (some (.val (.d (eB (decide (v11 < (d.cache.length : Int)))))))] [(1, (.d ((eL eB) keeps))), (2, (.ptr 0 0)), (4, (.ptr 1 0)), (5, (.msl 2 d.sure.length)), (6, (.d (eI64 v11))), (21, (.d (eB false)))] [(.var (.d (eDisk d))), (.var (.agg [(.full (([] : (List Str)).map eS)), (.full (([] : (List Write)).map eWrite)), (.d (eI64 (0 : Int))), (.d (eB false))])), (.row (v12.map eS) 1)] [none] hmx (by kernel_rfl) (good_op (len_d (e := 126) (by kernel_rfl)) (good_op (bo h22) good_nil)) ?_
      refine cd_f rfl (by kernel_rfl) ?_
      refine aw_exit ?_
      refine aw_seq ?_
      obtain ⟨h30, hg⟩ := chk_o hg
      refine aw_wk (wk_frz (l1 := [(1, (.d ((eL eB) keeps))), (2, (.ptr 0 0)), (4, (.ptr 1 0)), (5, (.d ((eL eS) v12))), (6, (.d (eI64 v11))), (21, (.d (eB false)))]) (h := [(.var (.d (eDisk d))), (.var (.agg [(.full (([] : (List Str)).map eS)), (.full (([] : (List Write)).map eWrite)), (.d (eI64 (0 : Int))), (.d (eB false))])), (.fz (.agg (v12.map eS)))]) 5 2 1 d.sure.length (v12.map eS) (by rw [List.length_map]; exact of_decide_eq_true h30) (by kernel_rfl)) ?_
      refine rg (Z := Zt) 0 0 [] [] [(4, (.ptr 1 0))] [(.var (.d (eDisk d))), (.var (.agg [(.d ((eL eS) v12)), (.full (([] : (List Write)).map eWrite)), (.d (eI64 (0 : Int))), (.d (eB false))])), (.fz (.agg (v12.map eS)))] [none] hmx (by kernel_rfl) good_nil ?_
      refine aw_ret ?_
      have hg := some_o hg
      subst hg
      exact lv_r [true] [] (by kernel_rfl)

/- ref04.Crash -/
def ref04_Crash (d : Disk) : Disk :=
  (Disk.mk d.sure d.cache (0 : Int) true)
theorem t_ref04_Crash {d : Disk} {r : Disk} (hg : ref04_Crash d = r) : VF Pg 23 [(.d (eDisk d))] (single [(.d (eDisk r))]) := by
  refine fn_ok (fn := Tryz.f23) (by kernel_rfl) rfl (by kernel_rfl) (Nat.le_of_ble_eq_true (by kernel_rfl)) fun B hB => ?_
  refine aw_seq ?_
  refine rg (Z := Zt) 2 0 [] [] [(1, (.ptr 0 0)), (2, (.ptr 1 0))] [(.var (.d (eDisk d))), (.var (.agg [(.full (([] : (List Str)).map eS)), (.full (([] : (List Write)).map eWrite)), (.d (eI64 (0 : Int))), (.d (eB false))]))] [] hmx (by kernel_rfl) good_nil ?_
  refine aw_seq ?_
  refine rg (Z := Zt) 0 0 [] [] [(1, (.ptr 0 0)), (2, (.ptr 1 0))] [(.var (.d (eDisk (Disk.mk d.sure d.cache (0 : Int) true)))), (.var (.agg [(.full (([] : (List Str)).map eS)), (.full (([] : (List Write)).map eWrite)), (.d (eI64 (0 : Int))), (.d (eB false))]))] [] hmx (by kernel_rfl) good_nil ?_
  refine aw_seq ?_
  refine rg (Z := Zt) 0 0 [] [] [(2, (.ptr 1 0))] [(.var (.d (eDisk (Disk.mk d.sure d.cache (0 : Int) true)))), (.var (.d (eDisk (Disk.mk d.sure d.cache (0 : Int) true))))] [] hmx (by kernel_rfl) good_nil ?_
  refine aw_ret ?_
  subst hg
  exact lv_r [true] [] (by kernel_rfl)

/- area.Put -/
def area_Put (n : Nat) (d : Disk) (i : Int) (data : Str) : Option (Disk × Int) :=
  (Let (area_there d i) fun x1 => (bif (!x1) then (some (d, (4 : Int))) else (bif ((data.length : Int) != (8 : Int)) then (some (d, (5 : Int))) else (Bnd (disk_Write d (wI64 (i + (2 : Int))) data) fun x5 => (bif (x5.2 != (0 : Int)) then (some (x5.1, x5.2)) else (Bnd (disk_Flush n x5.1) fun x8 => (some (x8.1, x8.2))))))))
theorem t_area_Put {n : Nat} {d : Disk} {i : Int} {data : Str} {r : (Disk × Int)} (hg : area_Put n d i data = some r) : VF Pg 120 [(.d (eDisk d)), (.d (eI64 i)), (.d (eS data))] (single [(.d (eDisk r.1)), (.d (eI64 r.2))]) := by
  refine fn_ok (fn := Tryz.f120) (by kernel_rfl) rfl (by kernel_rfl) (Nat.le_of_ble_eq_true (by kernel_rfl)) fun B hB => ?_
  refine aw_seq ?_
  refine rg (Z := Zt) 2 0 [] [] [(1, (.d (eI64 i))), (2, (.d (eS data))), (3, (.ptr 0 0)), (6, (.ptr 1 0))] [(.var (.d (eDisk d))), (.var (.agg [(.full (([] : (List Str)).map eS)), (.full (([] : (List Write)).map eWrite)), (.d (eI64 (0 : Int))), (.d (eB false))]))] [] hmx (by kernel_rfl) good_nil ?_
  refine aw_seq ?_
  refine aw_block ?_
  refine aw_seq ?_
  obtain ⟨x1, h2, hg⟩ := let_o hg
  refine rg (Z := Zt) 0 0 [(2, .vf (.d (eB x1)))] [.vf 186 [(.d (eDisk d)), (.d (eI64 i))]] [(1, (.d (eI64 i))), (2, (.d (eS data))), (3, (.ptr 0 0)), (6, (.ptr 1 0)), (9, (.d (eB (!x1))))] [(.var (.d (eDisk d))), (.var (.agg [(.full (([] : (List Str)).map eS)), (.full (([] : (List Write)).map eWrite)), (.d (eI64 (0 : Int))), (.d (eB false))]))] [] hmx (by kernel_rfl) (good_vf (t_area_there h2) rfl rfl good_nil) ?_
  rcases Bool.eq_false_or_eq_true (!x1) with h3 | h3
  · have hg := ite_t hg h3
    refine cd_t h3 (by kernel_rfl) ?_
    refine aw_seq ?_
    refine rg (Z := Zt) 0 0 [] [] [(6, (.ptr 1 0)), (7, (.d (eI64 (4 : Int))))] [(.var (.d (eDisk d))), (.var (.d (eDisk d)))] [] hmx (by kernel_rfl) good_nil ?_
    refine aw_ret ?_
    have hg := some_o hg
    subst hg
    exact lv_r [true, true] [] (by kernel_rfl)
  · have hg := ite_f hg h3
    refine cd_f h3 (by kernel_rfl) ?_
    refine aw_seq ?_
    refine rg (Z := Zt) 0 0 [] [] [(1, (.d (eI64 i))), (2, (.d (eS data))), (3, (.ptr 0 0)), (6, (.ptr 1 0)), (15, (.d (eB ((data.length : Int) != (8 : Int)))))] [(.var (.d (eDisk d))), (.var (.agg [(.full (([] : (List Str)).map eS)), (.full (([] : (List Write)).map eWrite)), (.d (eI64 (0 : Int))), (.d (eB false))]))] [] hmx (by kernel_rfl) good_nil ?_
    rcases Bool.eq_false_or_eq_true ((data.length : Int) != (8 : Int)) with h4 | h4
    · have hg := ite_t hg h4
      refine cd_t h4 (by kernel_rfl) ?_
      refine aw_seq ?_
      refine rg (Z := Zt) 0 0 [] [] [(6, (.ptr 1 0)), (7, (.d (eI64 (5 : Int))))] [(.var (.d (eDisk d))), (.var (.d (eDisk d)))] [] hmx (by kernel_rfl) good_nil ?_
      refine aw_ret ?_
      have hg := some_o hg
      subst hg
      exact lv_r [true, true] [] (by kernel_rfl)
    · have hg := ite_f hg h4
      refine cd_f h4 (by kernel_rfl) ?_
      refine aw_skip ?_
      refine aw_seq ?_
      obtain ⟨x5, h6, hg⟩ := bnd_o hg
      refine rg (Z := Zt) 0 0 [(4, .vf (.tup [(.d (eDisk x5.1)), (.d (eI64 x5.2))]))] [.vf 141 [(.d (eDisk d)), (.d (eI64 (wI64 (i + (2 : Int))))), (.d (eS data))]] [(3, (.ptr 0 0)), (6, (.ptr 1 0)), (8, (.d (eI64 x5.2)))] [(.var (.d (eDisk x5.1))), (.var (.agg [(.full (([] : (List Str)).map eS)), (.full (([] : (List Write)).map eWrite)), (.d (eI64 (0 : Int))), (.d (eB false))]))] [] hmx (by kernel_rfl) (good_vf (t_disk_Write h6) rfl rfl good_nil) ?_
      refine aw_seq ?_
      refine aw_seq ?_
      refine rg (Z := Zt) 0 0 [] [] [(3, (.ptr 0 0)), (6, (.ptr 1 0)), (8, (.d (eI64 x5.2))), (29, (.d (eB (x5.2 != (0 : Int)))))] [(.var (.d (eDisk x5.1))), (.var (.agg [(.full (([] : (List Str)).map eS)), (.full (([] : (List Write)).map eWrite)), (.d (eI64 (0 : Int))), (.d (eB false))]))] [] hmx (by kernel_rfl) good_nil ?_
      rcases Bool.eq_false_or_eq_true (x5.2 != (0 : Int)) with h7 | h7
      · have hg := ite_t hg h7
        refine cd_t h7 (by kernel_rfl) ?_
        refine aw_seq ?_
        refine rg (Z := Zt) 0 0 [] [] [(6, (.ptr 1 0)), (7, (.d (eI64 x5.2)))] [(.var (.d (eDisk x5.1))), (.var (.d (eDisk x5.1)))] [] hmx (by kernel_rfl) good_nil ?_
        refine aw_ret ?_
        have hg := some_o hg
        subst hg
        exact lv_r [true, true] [] (by kernel_rfl)
      · have hg := ite_f hg h7
        refine cd_f h7 (by kernel_rfl) ?_
        refine aw_skip ?_
        refine aw_seq ?_
        obtain ⟨x8, h9, hg⟩ := bnd_o hg
        refine rg (Z := Zt) 0 0 [(1, .vf (.tup [(.d (eDisk x8.1)), (.d (eI64 x8.2))]))] [.vf 139 [(.d (eDisk x5.1))]] [(6, (.ptr 1 0)), (7, (.d (eI64 x8.2)))] [(.var (.d (eDisk x5.1))), (.var (.d (eDisk x8.1)))] [] hmx (by kernel_rfl) (good_vf (t_disk_Flush h9) rfl rfl good_nil) ?_
        refine aw_ret ?_
        have hg := some_o hg
        subst hg
        exact lv_r [true, true] [] (by kernel_rfl)

/- store.Put -/
def store_Put (n : Nat) (s : Store) (i : Int) (data : Str) : Option (Store × Int) :=
  (Bnd (area_Put n s.disk i data) fun x1 => (some ((Store.mk x1.1 s.super s.mask), x1.2)))
theorem t_store_Put {n : Nat} {s : Store} {i : Int} {data : Str} {r : (Store × Int)} (hg : store_Put n s i data = some r) : VF Pg 57 [(.d (eStore s)), (.d (eI64 i)), (.d (eS data))] (single [(.d (eStore r.1)), (.d (eI64 r.2))]) := by
  refine fn_ok (fn := Tryz.f57) (by kernel_rfl) rfl (by kernel_rfl) (Nat.le_of_ble_eq_true (by kernel_rfl)) fun B hB => ?_
  refine aw_seq ?_
  refine rg (Z := Zt) 2 0 [] [] [(1, (.d (eI64 i))), (2, (.d (eS data))), (3, (.ptr 0 0)), (6, (.ptr 1 0))] [(.var (.d (eStore s))), (.var (.agg [(.agg [(.full (([] : (List Str)).map eS)), (.full (([] : (List Write)).map eWrite)), (.d (eI64 (0 : Int))), (.d (eB false))]), (.agg [(.d (eI64 (0 : Int))), (.agg [(.d (eU64 (0 : Int))), (.d (eU64 (0 : Int))), (.agg [(.d (eU64 (0 : Int))), (.d (eU64 (0 : Int)))])]), (.d (eB false)), (.d (eB false)), (.d (eB false))]), (.d (eU32 (0 : Int)))]))] [] hmx (by kernel_rfl) good_nil ?_
  refine aw_seq ?_
  obtain ⟨x1, h2, hg⟩ := bnd_o hg
  refine rg (Z := Zt) 0 0 [(4, .vf (.tup [(.d (eDisk x1.1)), (.d (eI64 x1.2))]))] [.vf 120 [(.d (eDisk s.disk)), (.d (eI64 i)), (.d (eS data))]] [(3, (.ptr 0 0)), (6, (.ptr 1 0)), (7, (.d (eI64 x1.2)))] [(.var (.d (eStore (Store.mk x1.1 s.super s.mask)))), (.var (.agg [(.agg [(.full (([] : (List Str)).map eS)), (.full (([] : (List Write)).map eWrite)), (.d (eI64 (0 : Int))), (.d (eB false))]), (.agg [(.d (eI64 (0 : Int))), (.agg [(.d (eU64 (0 : Int))), (.d (eU64 (0 : Int))), (.agg [(.d (eU64 (0 : Int))), (.d (eU64 (0 : Int)))])]), (.d (eB false)), (.d (eB false)), (.d (eB false))]), (.d (eU32 (0 : Int)))]))] [] hmx (by kernel_rfl) (good_vf (t_area_Put h2) rfl rfl good_nil) ?_
  refine aw_seq ?_
  refine rg (Z := Zt) 0 0 [] [] [(6, (.ptr 1 0)), (7, (.d (eI64 x1.2)))] [(.var (.d (eStore (Store.mk x1.1 s.super s.mask)))), (.var (.d (eStore (Store.mk x1.1 s.super s.mask))))] [] hmx (by kernel_rfl) good_nil ?_
  refine aw_ret ?_
  have hg := some_o hg
  subst hg
  exact lv_r [true, true] [] (by kernel_rfl)

/- store.Read -/
def store_Read (s : Store) (i : Int) : Option (Str × Int) :=
  (Bnd (area_Read s.disk i) fun x1 => (some (x1.1, x1.2)))
theorem t_store_Read {s : Store} {i : Int} {r : (Str × Int)} (hg : store_Read s i = some r) : VF Pg 58 [(.d (eStore s)), (.d (eI64 i))] (single [(.d (eS r.1)), (.d (eI64 r.2))]) := by
  refine fn_ok (fn := Tryz.f58) (by kernel_rfl) rfl (by kernel_rfl) (Nat.le_of_ble_eq_true (by kernel_rfl)) fun B hB => ?_
  refine aw_seq ?_
  refine rg (Z := Zt) 1 0 [] [] [(1, (.d (eI64 i))), (2, (.ptr 0 0))] [(.var (.d (eStore s)))] [] hmx (by kernel_rfl) good_nil ?_
  refine aw_seq ?_
  obtain ⟨x1, h2, hg⟩ := bnd_o hg
  refine rg (Z := Zt) 0 0 [(3, .vf (.tup [(.d (eS x1.1)), (.d (eI64 x1.2))]))] [.vf 121 [(.d (eDisk s.disk)), (.d (eI64 i))]] [(4, (.d (eS x1.1))), (5, (.d (eI64 x1.2)))] [(.var (.d (eStore s)))] [] hmx (by kernel_rfl) (good_vf (t_area_Read h2) rfl rfl good_nil) ?_
  refine aw_ret ?_
  have hg := some_o hg
  subst hg
  exact lv_r [true, true] [] (by kernel_rfl)

/- num.Put64 -/
def num_Put64 (n : Nat) (n_ : Int) : Option Str :=
  (Bnd (num_put n n_ (8 : Int)) fun x1 => (some x1))
theorem t_num_Put64 {n : Nat} {n_ : Int} {r : Str} (hg : num_Put64 n n_ = some r) : VF Pg 220 [(.d (eU64 n_))] (single [(.d (eS r))]) := by
  refine fn_ok (fn := Tryz.f220) (by kernel_rfl) rfl (by kernel_rfl) (Nat.le_of_ble_eq_true (by kernel_rfl)) fun B hB => ?_
  refine aw_seq ?_
  refine rg (Z := Zt) 0 0 [] [] [(0, (.d (eU64 n_)))] [] [] hmx (by kernel_rfl) good_nil ?_
  refine aw_seq ?_
  obtain ⟨x1, h2, hg⟩ := bnd_o hg
  refine rg (Z := Zt) 0 0 [(1, .vf (.d (eS x1)))] [.vf 211 [(.d (eU64 n_)), (.d (eI64 (8 : Int)))]] [(2, (.d (eS x1)))] [] [] hmx (by kernel_rfl) (good_vf (t_num_put h2) rfl rfl good_nil) ?_
  refine aw_ret ?_
  have hg := some_o hg
  subst hg
  exact lv_r [true] [] (by kernel_rfl)

/- num.Flags -/
def num_Flags_L1 (n : Nat) (l : (List Bool)) (v5 : Int) (v6 : Int) : Option Int :=
  match n with
  | 0 => none
  | n + 1 => (bif (decide (v6 < ((l.take (mn2 (l.length : Int) (8 : Int)).toNat).length : Int))) then (Chk (inR v6 (l.take (mn2 (l.length : Int) (8 : Int)).toNat).length) (bif (gt (l.take (mn2 (l.length : Int) (8 : Int)).toNat) v6) then (Chk (decide (0 ≤ v6)) (num_Flags_L1 n l (orU8 v5 (shlU8 (1 : Int) v6)) (wI64 (v6 + (1 : Int))))) else (num_Flags_L1 n l v5 (wI64 (v6 + (1 : Int)))))) else (some v5))
def num_Flags (n : Nat) (l : (List Bool)) : Option Int :=
  (Chk (hiOK (mn2 (l.length : Int) (8 : Int)) l.length) (num_Flags_L1 n l (0 : Int) (0 : Int)))
theorem t_num_Flags {n : Nat} {l : (List Bool)} {r : Int} (hg : num_Flags n l = some r) : VF Pg 259 [(.d ((eL eB) l))] (single [(.d (eU8 r))]) := by
  refine fn_ok (fn := Tryz.f259) (by kernel_rfl) rfl (by kernel_rfl) (Nat.le_of_ble_eq_true (by kernel_rfl)) fun B hB => ?_
  refine aw_seq ?_
  refine rg (Z := Zt) 0 0 [] [] [(0, (.d ((eL eB) l))), (2, (.d (eU8 (0 : Int))))] [] [] hmx (by kernel_rfl) good_nil ?_
  refine aw_seq ?_
  refine aw_seq ?_
  obtain ⟨h1, hg⟩ := chk_o hg
  refine rg (Z := Zt) 0 0 [(2, .op (.val (.d (eI64 (l.length : Int))))), (4, .op (.val (.d ((eL eB) (l.take (mn2 (l.length : Int) (8 : Int)).toNat))))), (5, .op (.val (.d (eI64 ((l.take (mn2 (l.length : Int) (8 : Int)).toNat).length : Int)))))] [.op (xLen Pg 124 (.d ((eL eB) l))), .op (evSlice Pg 124 (.d ((eL eB) l)) none (some (.d (eI64 (mn2 (l.length : Int) (8 : Int))))) none []), .op (xLen Pg 124 (.d ((eL eB) (l.take (mn2 (l.length : Int) (8 : Int)).toNat))))] [(2, (.d (eU8 (0 : Int)))), (9, (.d ((eL eB) (l.take (mn2 (l.length : Int) (8 : Int)).toNat)))), (10, (.d (eI64 ((l.take (mn2 (l.length : Int) (8 : Int)).toNat).length : Int)))), (11, (.d (eI64 (0 : Int))))] [] [] hmx (by kernel_rfl) (good_op (len_d (e := 4) (by kernel_rfl)) (good_op (sub_d_hi (s := 1) (g := false) (y := 1) (by kernel_rfl) (fun _ => rfl) h1) (good_op (len_d (e := 4) (by kernel_rfl)) good_nil))) ?_
  refine aw_block ?_
  refine aw_loop (fun μ σ => ∃ (v5 : Int) (v6 : Int), μ ≤ n ∧ num_Flags_L1 μ l v5 v6 = some r ∧ Wk B σ (st Tryz.f259.ntmps [(2, (.d (eU8 v5))), (9, (.d ((eL eB) (l.take (mn2 (l.length : Int) (8 : Int)).toNat)))), (10, (.d (eI64 ((l.take (mn2 (l.length : Int) (8 : Int)).toNat).length : Int)))), (11, (.d (eI64 v6)))] [] [])) n ⟨(0 : Int), (0 : Int), Nat.le_refl _, hg, (Wk.refl _)⟩ ?_
  rintro μ σ ⟨v5, v6, hle, hg, hwk⟩
  refine aw_wk hwk ?_
  clear hwk
  cases μ with
  | zero => exact absurd (show none = some r from hg) (by simp)
  | succ n =>
    refine aw_seq ?_
    refine rg (Z := Zt) 0 0 [] [] [(2, (.d (eU8 v5))), (9, (.d ((eL eB) (l.take (mn2 (l.length : Int) (8 : Int)).toNat)))), (10, (.d (eI64 ((l.take (mn2 (l.length : Int) (8 : Int)).toNat).length : Int)))), (11, (.d (eI64 v6))), (12, (.d (eB (decide (v6 < ((l.take (mn2 (l.length : Int) (8 : Int)).toNat).length : Int))))))] [] [] hmx (by kernel_rfl) good_nil ?_
    refine aw_seq ?_
    rcases Bool.eq_false_or_eq_true (decide (v6 < ((l.take (mn2 (l.length : Int) (8 : Int)).toNat).length : Int))) with h11 | h11
    · have hg := ite_t hg h11
      refine cd_t h11 (by kernel_rfl) ?_
      refine aw_skip ?_
      refine aw_seq ?_
      refine aw_block ?_
      refine aw_seq ?_
      obtain ⟨h12, hg⟩ := chk_o hg
      refine rg (Z := Zt) 0 0 [(1, .op (.val (.kp (eB (gt (l.take (mn2 (l.length : Int) (8 : Int)).toNat) v6)))))] [.op (xIdA Pg 124 (.d ((eL eB) (l.take (mn2 (l.length : Int) (8 : Int)).toNat))) (.d (eI64 v6)))] [(2, (.d (eU8 v5))), (3, (.d (eI64 v6))), (4, (.d (eB (gt (l.take (mn2 (l.length : Int) (8 : Int)).toNat) v6)))), (9, (.d ((eL eB) (l.take (mn2 (l.length : Int) (8 : Int)).toNat)))), (10, (.d (eI64 ((l.take (mn2 (l.length : Int) (8 : Int)).toNat).length : Int)))), (11, (.d (eI64 v6)))] [] [] hmx (by kernel_rfl) (good_op (idx_d (s := 1) (b := false) (by_ := 1) (by kernel_rfl) (fun _ => rfl) h12) good_nil) ?_
      refine aw_seq ?_
      refine rg (Z := Zt) 0 0 [] [] [(2, (.d (eU8 v5))), (3, (.d (eI64 v6))), (9, (.d ((eL eB) (l.take (mn2 (l.length : Int) (8 : Int)).toNat)))), (10, (.d (eI64 ((l.take (mn2 (l.length : Int) (8 : Int)).toNat).length : Int)))), (11, (.d (eI64 v6))), (16, (.d (eB (gt (l.take (mn2 (l.length : Int) (8 : Int)).toNat) v6))))] [] [] hmx (by kernel_rfl) good_nil ?_
      rcases Bool.eq_false_or_eq_true (gt (l.take (mn2 (l.length : Int) (8 : Int)).toNat) v6) with h13 | h13
      · have hg := ite_t hg h13
        refine cd_t h13 (by kernel_rfl) ?_
        obtain ⟨h14, hg⟩ := chk_o hg
        refine rg (Z := Zt) 0 0 [(2, .op (.val (.d (eU8 (shlU8 (1 : Int) v6)))))] [.op (xBin Pg .shl 5 (.d (eU8 (1 : Int))) (.d (eI64 v6)))] [(2, (.d (eU8 (orU8 v5 (shlU8 (1 : Int) v6))))), (9, (.d ((eL eB) (l.take (mn2 (l.length : Int) (8 : Int)).toNat)))), (10, (.d (eI64 ((l.take (mn2 (l.length : Int) (8 : Int)).toNat).length : Int)))), (11, (.d (eI64 v6)))] [] [] hmx (by kernel_rfl) (good_op (shl_ok h14) good_nil) ?_
        refine rg (Z := Zt) 0 0 [] [] [(2, (.d (eU8 (orU8 v5 (shlU8 (1 : Int) v6))))), (9, (.d ((eL eB) (l.take (mn2 (l.length : Int) (8 : Int)).toNat)))), (10, (.d (eI64 ((l.take (mn2 (l.length : Int) (8 : Int)).toNat).length : Int)))), (11, (.d (eI64 (wI64 (v6 + (1 : Int))))))] [] [] hmx (by kernel_rfl) good_nil ?_
        exact ⟨n, by omega, (orU8 v5 (shlU8 (1 : Int) v6)), (wI64 (v6 + (1 : Int))), by omega, hg, (Wk.refl _)⟩
      · have hg := ite_f hg h13
        refine cd_f h13 (by kernel_rfl) ?_
        refine aw_skip ?_
        refine rg (Z := Zt) 0 0 [] [] [(2, (.d (eU8 v5))), (9, (.d ((eL eB) (l.take (mn2 (l.length : Int) (8 : Int)).toNat)))), (10, (.d (eI64 ((l.take (mn2 (l.length : Int) (8 : Int)).toNat).length : Int)))), (11, (.d (eI64 (wI64 (v6 + (1 : Int))))))] [] [] hmx (by kernel_rfl) good_nil ?_
        exact ⟨n, by omega, v5, (wI64 (v6 + (1 : Int))), by omega, hg, (Wk.refl _)⟩
    · have hg := ite_f hg h11
      refine cd_f h11 (by kernel_rfl) ?_
      refine aw_exit ?_
      refine aw_seq ?_
      refine rg (Z := Zt) 0 0 [] [] [(2, (.d (eU8 v5)))] [] [] hmx (by kernel_rfl) good_nil ?_
      refine aw_ret ?_
      have hg := some_o hg
      subst hg
      exact lv_r [true] [] (by kernel_rfl)

/- super.Encode -/
def super_Encode (n : Nat) (s : Super) : Option (Str × Int) :=
  (Bnd (super_Right s) fun x1 => (bif (!x1) then (some (([] : Str), (1 : Int))) else (Bnd (num_Flags n ([s.inc, s.pri, s.dis] : (List Bool))) fun x4 => (Chk (catOK ([71, 77, 1] : Str) ([by8 (wU8 s.blocks), by8 x4] : Str)) (Let (super_generations s) fun x7 => (Bnd (num_Put64 n x7.vector.current) fun x9 => (Chk (catOK (([71, 77, 1] : Str) ++ ([by8 (wU8 s.blocks), by8 x4] : Str)) x9) (Bnd (num_Put64 n x7.vector.bitmap) fun x12 => (Chk (catOK ((([71, 77, 1] : Str) ++ ([by8 (wU8 s.blocks), by8 x4] : Str)) ++ x9) x12) (Bnd (num_Put64 n x7.vector.old.a0) fun x15 => (Chk (catOK (((([71, 77, 1] : Str) ++ ([by8 (wU8 s.blocks), by8 x4] : Str)) ++ x9) ++ x12) x15) (Bnd (num_Put64 n x7.vector.old.a1) fun x18 => (Chk (catOK ((((([71, 77, 1] : Str) ++ ([by8 (wU8 s.blocks), by8 x4] : Str)) ++ x9) ++ x12) ++ x15) x18) (Bnd (check_Seal n (((((([71, 77, 1] : Str) ++ ([by8 (wU8 s.blocks), by8 x4] : Str)) ++ x9) ++ x12) ++ x15) ++ x18)) fun x21 => (some (x21, (0 : Int)))))))))))))))))
theorem t_super_Encode {n : Nat} {s : Super} {r : (Str × Int)} (hg : super_Encode n s = some r) : VF Pg 187 [(.d (eSuper s))] (single [(.d (eS r.1)), (.d (eI64 r.2))]) := by
  refine fn_ok (fn := Tryz.f187) (by kernel_rfl) rfl (by kernel_rfl) (Nat.le_of_ble_eq_true (by kernel_rfl)) fun B hB => ?_
  refine aw_seq ?_
  refine rg (Z := Zt) 1 0 [] [] [(1, (.ptr 0 0))] [(.var (.d (eSuper s)))] [] hmx (by kernel_rfl) good_nil ?_
  refine aw_seq ?_
  refine aw_seq ?_
  obtain ⟨x1, h2, hg⟩ := bnd_o hg
  refine rg (Z := Zt) 0 0 [(1, .vf (.d (eB x1)))] [.vf 258 [(.d (eSuper s))]] [(1, (.ptr 0 0)), (9, (.d (eB (!x1))))] [(.var (.d (eSuper s)))] [] hmx (by kernel_rfl) (good_vf (t_super_Right h2) rfl rfl good_nil) ?_
  rcases Bool.eq_false_or_eq_true (!x1) with h3 | h3
  · have hg := ite_t hg h3
    refine cd_t h3 (by kernel_rfl) ?_
    refine aw_seq ?_
    refine rg (Z := Zt) 0 0 [] [] [(2, (.d (eS ([] : Str)))), (3, (.d (eI64 (1 : Int))))] [(.var (.d (eSuper s)))] [] hmx (by kernel_rfl) good_nil ?_
    refine aw_ret ?_
    have hg := some_o hg
    subst hg
    exact lv_r [true, true] [] (by kernel_rfl)
  · have hg := ite_f hg h3
    refine cd_f h3 (by kernel_rfl) ?_
    refine aw_skip ?_
    refine aw_seq ?_
    obtain ⟨x4, h5, hg⟩ := bnd_o hg
    obtain ⟨h6, hg⟩ := chk_o hg
    refine rg (Z := Zt) 0 0 [(10, .vf (.d (eU8 x4))), (13, .op (.val (.d (eS (([71, 77, 1] : Str) ++ ([by8 (wU8 s.blocks), by8 x4] : Str))))))] [.vf 259 [(.d ((eL eB) ([s.inc, s.pri, s.dis] : (List Bool))))], .op (xBin Pg .add 9 (.d (eS ([71, 77, 1] : Str))) (.d (eS ([by8 (wU8 s.blocks), by8 x4] : Str))))] [(1, (.ptr 0 0)), (4, (.d (eS (([71, 77, 1] : Str) ++ ([by8 (wU8 s.blocks), by8 x4] : Str)))))] [(.var (.d (eSuper s)))] [] hmx (by kernel_rfl) (good_vf (t_num_Flags h5) rfl rfl (good_op (cat_str h6) good_nil)) ?_
    refine aw_seq ?_
    refine aw_seq ?_
    obtain ⟨x7, h8, hg⟩ := let_o hg
    refine rg (Z := Zt) 0 0 [(0, .call (.agg [(.ptr 0 1), (.ptr 0 2), (.ptr 0 3), (.ptr 0 4)]) [0] [(.var (.d (eSuper s)))] [(.var (.d (eSuper x7)))] [] [] [])] [.call 260 [(.ptr 0 0)] [(some (.var (.d (eSuper s))))] []] [(4, (.d (eS (([71, 77, 1] : Str) ++ ([by8 (wU8 s.blocks), by8 x4] : Str))))), (24, (.agg [(.ptr 0 1), (.ptr 0 2), (.ptr 0 3), (.ptr 0 4)])), (25, (.d (eI64 (0 : Int))))] [(.var (.d (eSuper x7)))] [] hmx (by kernel_rfl) (good_call rfl rfl (callL (argsR := [(.ptr 0 0)]) (ER := [(.var (.d (eSuper s)))]) (t_super_generations h8) [0] [] [] (by kernel_rfl) (by kernel_rfl) (by kernel_rfl) (by kernel_rfl)) good_nil) ?_
    refine aw_block ?_
    refine aw_rounds 6 ?_
    refine ards ?_
    refine aw_seq ?_
    refine rg (Z := Zt) 0 0 [] [] [(4, (.d (eS (([71, 77, 1] : Str) ++ ([by8 (wU8 s.blocks), by8 x4] : Str))))), (24, (.agg [(.ptr 0 1), (.ptr 0 2), (.ptr 0 3), (.ptr 0 4)])), (25, (.d (eI64 (0 : Int)))), (26, (.d (eB true)))] [(.var (.d (eSuper x7)))] [] hmx (by kernel_rfl) good_nil ?_
    refine aw_seq ?_
    refine cd_t rfl (by kernel_rfl) ?_
    refine aw_skip ?_
    refine aw_seq ?_
    refine aw_block ?_
    refine aw_seq ?_
    refine rg (Z := Zt) 0 0 [] [] [(4, (.d (eS (([71, 77, 1] : Str) ++ ([by8 (wU8 s.blocks), by8 x4] : Str))))), (6, (.ptr 0 1)), (24, (.agg [(.ptr 0 1), (.ptr 0 2), (.ptr 0 3), (.ptr 0 4)])), (25, (.d (eI64 (0 : Int))))] [(.var (.d (eSuper x7)))] [] hmx (by kernel_rfl) good_nil ?_
    obtain ⟨x9, h10, hg⟩ := bnd_o hg
    obtain ⟨h11, hg⟩ := chk_o hg
    refine rg (Z := Zt) 0 0 [(4, .vf (.d (eS x9))), (5, .op (.val (.d (eS ((([71, 77, 1] : Str) ++ ([by8 (wU8 s.blocks), by8 x4] : Str)) ++ x9)))))] [.vf 220 [(.d (eU64 x7.vector.current))], .op (xBin Pg .add 9 (.d (eS (([71, 77, 1] : Str) ++ ([by8 (wU8 s.blocks), by8 x4] : Str)))) (.d (eS x9)))] [(4, (.d (eS ((([71, 77, 1] : Str) ++ ([by8 (wU8 s.blocks), by8 x4] : Str)) ++ x9)))), (24, (.agg [(.ptr 0 1), (.ptr 0 2), (.ptr 0 3), (.ptr 0 4)])), (25, (.d (eI64 (0 : Int))))] [(.var (.d (eSuper x7)))] [] hmx (by kernel_rfl) (good_vf (t_num_Put64 h10) rfl rfl (good_op (cat_str h11) good_nil)) ?_
    refine rg (Z := Zt) 0 0 [] [] [(4, (.d (eS ((([71, 77, 1] : Str) ++ ([by8 (wU8 s.blocks), by8 x4] : Str)) ++ x9)))), (24, (.agg [(.ptr 0 1), (.ptr 0 2), (.ptr 0 3), (.ptr 0 4)])), (25, (.d (eI64 (1 : Int))))] [(.var (.d (eSuper x7)))] [] hmx (by kernel_rfl) good_nil ?_
    refine ards ?_
    refine aw_seq ?_
    refine rg (Z := Zt) 0 0 [] [] [(4, (.d (eS ((([71, 77, 1] : Str) ++ ([by8 (wU8 s.blocks), by8 x4] : Str)) ++ x9)))), (24, (.agg [(.ptr 0 1), (.ptr 0 2), (.ptr 0 3), (.ptr 0 4)])), (25, (.d (eI64 (1 : Int)))), (26, (.d (eB true)))] [(.var (.d (eSuper x7)))] [] hmx (by kernel_rfl) good_nil ?_
    refine aw_seq ?_
    refine cd_t rfl (by kernel_rfl) ?_
    refine aw_skip ?_
    refine aw_seq ?_
    refine aw_block ?_
    refine aw_seq ?_
    refine rg (Z := Zt) 0 0 [] [] [(4, (.d (eS ((([71, 77, 1] : Str) ++ ([by8 (wU8 s.blocks), by8 x4] : Str)) ++ x9)))), (6, (.ptr 0 2)), (24, (.agg [(.ptr 0 1), (.ptr 0 2), (.ptr 0 3), (.ptr 0 4)])), (25, (.d (eI64 (1 : Int))))] [(.var (.d (eSuper x7)))] [] hmx (by kernel_rfl) good_nil ?_
    obtain ⟨x12, h13, hg⟩ := bnd_o hg
    obtain ⟨h14, hg⟩ := chk_o hg
    refine rg (Z := Zt) 0 0 [(4, .vf (.d (eS x12))), (5, .op (.val (.d (eS (((([71, 77, 1] : Str) ++ ([by8 (wU8 s.blocks), by8 x4] : Str)) ++ x9) ++ x12)))))] [.vf 220 [(.d (eU64 x7.vector.bitmap))], .op (xBin Pg .add 9 (.d (eS ((([71, 77, 1] : Str) ++ ([by8 (wU8 s.blocks), by8 x4] : Str)) ++ x9))) (.d (eS x12)))] [(4, (.d (eS (((([71, 77, 1] : Str) ++ ([by8 (wU8 s.blocks), by8 x4] : Str)) ++ x9) ++ x12)))), (24, (.agg [(.ptr 0 1), (.ptr 0 2), (.ptr 0 3), (.ptr 0 4)])), (25, (.d (eI64 (1 : Int))))] [(.var (.d (eSuper x7)))] [] hmx (by kernel_rfl) (good_vf (t_num_Put64 h13) rfl rfl (good_op (cat_str h14) good_nil)) ?_
    refine rg (Z := Zt) 0 0 [] [] [(4, (.d (eS (((([71, 77, 1] : Str) ++ ([by8 (wU8 s.blocks), by8 x4] : Str)) ++ x9) ++ x12)))), (24, (.agg [(.ptr 0 1), (.ptr 0 2), (.ptr 0 3), (.ptr 0 4)])), (25, (.d (eI64 (2 : Int))))] [(.var (.d (eSuper x7)))] [] hmx (by kernel_rfl) good_nil ?_
    refine ards ?_
    refine aw_seq ?_
    refine rg (Z := Zt) 0 0 [] [] [(4, (.d (eS (((([71, 77, 1] : Str) ++ ([by8 (wU8 s.blocks), by8 x4] : Str)) ++ x9) ++ x12)))), (24, (.agg [(.ptr 0 1), (.ptr 0 2), (.ptr 0 3), (.ptr 0 4)])), (25, (.d (eI64 (2 : Int)))), (26, (.d (eB true)))] [(.var (.d (eSuper x7)))] [] hmx (by kernel_rfl) good_nil ?_
    refine aw_seq ?_
    refine cd_t rfl (by kernel_rfl) ?_
    refine aw_skip ?_
    refine aw_seq ?_
    refine aw_block ?_
    refine aw_seq ?_
    refine rg (Z := Zt) 0 0 [] [] [(4, (.d (eS (((([71, 77, 1] : Str) ++ ([by8 (wU8 s.blocks), by8 x4] : Str)) ++ x9) ++ x12)))), (6, (.ptr 0 3)), (24, (.agg [(.ptr 0 1), (.ptr 0 2), (.ptr 0 3), (.ptr 0 4)])), (25, (.d (eI64 (2 : Int))))] [(.var (.d (eSuper x7)))] [] hmx (by kernel_rfl) good_nil ?_
    obtain ⟨x15, h16, hg⟩ := bnd_o hg
    obtain ⟨h17, hg⟩ := chk_o hg
    refine rg (Z := Zt) 0 0 [(4, .vf (.d (eS x15))), (5, .op (.val (.d (eS ((((([71, 77, 1] : Str) ++ ([by8 (wU8 s.blocks), by8 x4] : Str)) ++ x9) ++ x12) ++ x15)))))] [.vf 220 [(.d (eU64 x7.vector.old.a0))], .op (xBin Pg .add 9 (.d (eS (((([71, 77, 1] : Str) ++ ([by8 (wU8 s.blocks), by8 x4] : Str)) ++ x9) ++ x12))) (.d (eS x15)))] [(4, (.d (eS ((((([71, 77, 1] : Str) ++ ([by8 (wU8 s.blocks), by8 x4] : Str)) ++ x9) ++ x12) ++ x15)))), (24, (.agg [(.ptr 0 1), (.ptr 0 2), (.ptr 0 3), (.ptr 0 4)])), (25, (.d (eI64 (2 : Int))))] [(.var (.d (eSuper x7)))] [] hmx (by kernel_rfl) (good_vf (t_num_Put64 h16) rfl rfl (good_op (cat_str h17) good_nil)) ?_
    refine rg (Z := Zt) 0 0 [] [] [(4, (.d (eS ((((([71, 77, 1] : Str) ++ ([by8 (wU8 s.blocks), by8 x4] : Str)) ++ x9) ++ x12) ++ x15)))), (24, (.agg [(.ptr 0 1), (.ptr 0 2), (.ptr 0 3), (.ptr 0 4)])), (25, (.d (eI64 (3 : Int))))] [(.var (.d (eSuper x7)))] [] hmx (by kernel_rfl) good_nil ?_
    refine ards ?_
    refine aw_seq ?_
    refine rg (Z := Zt) 0 0 [] [] [(4, (.d (eS ((((([71, 77, 1] : Str) ++ ([by8 (wU8 s.blocks), by8 x4] : Str)) ++ x9) ++ x12) ++ x15)))), (24, (.agg [(.ptr 0 1), (.ptr 0 2), (.ptr 0 3), (.ptr 0 4)])), (25, (.d (eI64 (3 : Int)))), (26, (.d (eB true)))] [(.var (.d (eSuper x7)))] [] hmx (by kernel_rfl) good_nil ?_
    refine aw_seq ?_
    refine cd_t rfl (by kernel_rfl) ?_
    refine aw_skip ?_
    refine aw_seq ?_
    refine aw_block ?_
    refine aw_seq ?_
    refine rg (Z := Zt) 0 0 [] [] [(4, (.d (eS ((((([71, 77, 1] : Str) ++ ([by8 (wU8 s.blocks), by8 x4] : Str)) ++ x9) ++ x12) ++ x15)))), (6, (.ptr 0 4)), (24, (.agg [(.ptr 0 1), (.ptr 0 2), (.ptr 0 3), (.ptr 0 4)])), (25, (.d (eI64 (3 : Int))))] [(.var (.d (eSuper x7)))] [] hmx (by kernel_rfl) good_nil ?_
    obtain ⟨x18, h19, hg⟩ := bnd_o hg
    obtain ⟨h20, hg⟩ := chk_o hg
    refine rg (Z := Zt) 0 0 [(4, .vf (.d (eS x18))), (5, .op (.val (.d (eS (((((([71, 77, 1] : Str) ++ ([by8 (wU8 s.blocks), by8 x4] : Str)) ++ x9) ++ x12) ++ x15) ++ x18)))))] [.vf 220 [(.d (eU64 x7.vector.old.a1))], .op (xBin Pg .add 9 (.d (eS ((((([71, 77, 1] : Str) ++ ([by8 (wU8 s.blocks), by8 x4] : Str)) ++ x9) ++ x12) ++ x15))) (.d (eS x18)))] [(4, (.d (eS (((((([71, 77, 1] : Str) ++ ([by8 (wU8 s.blocks), by8 x4] : Str)) ++ x9) ++ x12) ++ x15) ++ x18)))), (24, (.agg [(.ptr 0 1), (.ptr 0 2), (.ptr 0 3), (.ptr 0 4)])), (25, (.d (eI64 (3 : Int))))] [(.var (.d (eSuper x7)))] [] hmx (by kernel_rfl) (good_vf (t_num_Put64 h19) rfl rfl (good_op (cat_str h20) good_nil)) ?_
    refine rg (Z := Zt) 0 0 [] [] [(4, (.d (eS (((((([71, 77, 1] : Str) ++ ([by8 (wU8 s.blocks), by8 x4] : Str)) ++ x9) ++ x12) ++ x15) ++ x18)))), (24, (.agg [(.ptr 0 1), (.ptr 0 2), (.ptr 0 3), (.ptr 0 4)])), (25, (.d (eI64 (4 : Int))))] [(.var (.d (eSuper x7)))] [] hmx (by kernel_rfl) good_nil ?_
    refine ards ?_
    refine aw_seq ?_
    refine rg (Z := Zt) 0 0 [] [] [(4, (.d (eS (((((([71, 77, 1] : Str) ++ ([by8 (wU8 s.blocks), by8 x4] : Str)) ++ x9) ++ x12) ++ x15) ++ x18)))), (24, (.agg [(.ptr 0 1), (.ptr 0 2), (.ptr 0 3), (.ptr 0 4)])), (25, (.d (eI64 (4 : Int)))), (26, (.d (eB false)))] [(.var (.d (eSuper x7)))] [] hmx (by kernel_rfl) good_nil ?_
    refine aw_seq ?_
    refine cd_f rfl (by kernel_rfl) ?_
    refine aw_exit ?_
    refine aw_seq ?_
    obtain ⟨x21, h22, hg⟩ := bnd_o hg
    refine rg (Z := Zt) 0 0 [(1, .vf (.d (eS x21)))] [.vf 142 [(.d (eS (((((([71, 77, 1] : Str) ++ ([by8 (wU8 s.blocks), by8 x4] : Str)) ++ x9) ++ x12) ++ x15) ++ x18)))]] [(2, (.d (eS x21))), (3, (.d (eI64 (0 : Int))))] [(.var (.d (eSuper x7)))] [] hmx (by kernel_rfl) (good_vf (t_check_Seal h22) rfl rfl good_nil) ?_
    refine aw_ret ?_
    have hg := some_o hg
    subst hg
    exact lv_r [true, true] [] (by kernel_rfl)

/- meta.Commit -/
def meta_Commit (n : Nat) (d : Disk) (s : Super) : Option (Disk × Int) :=
  (Bnd (super_Encode n s) fun x1 => (bif (x1.2 != (0 : Int)) then (some (d, (1 : Int))) else (Let (meta_Fits d s) fun x4 => (bif (!x4) then (some (d, (1 : Int))) else (Bnd (disk_Write d (0 : Int) x1.1) fun x7 => (bif (x7.2 != (0 : Int)) then (some (x7.1, x7.2)) else (Bnd (disk_Flush n x7.1) fun x10 => (some (x10.1, x10.2)))))))))
theorem t_meta_Commit {n : Nat} {d : Disk} {s : Super} {r : (Disk × Int)} (hg : meta_Commit n d s = some r) : VF Pg 122 [(.d (eDisk d)), (.d (eSuper s))] (single [(.d (eDisk r.1)), (.d (eI64 r.2))]) := by
  refine fn_ok (fn := Tryz.f122) (by kernel_rfl) rfl (by kernel_rfl) (Nat.le_of_ble_eq_true (by kernel_rfl)) fun B hB => ?_
  refine aw_seq ?_
  refine rg (Z := Zt) 3 0 [] [] [(2, (.ptr 0 0)), (3, (.ptr 1 0)), (4, (.ptr 2 0))] [(.var (.d (eDisk d))), (.var (.d (eSuper s))), (.var (.agg [(.full (([] : (List Str)).map eS)), (.full (([] : (List Write)).map eWrite)), (.d (eI64 (0 : Int))), (.d (eB false))]))] [] hmx (by kernel_rfl) good_nil ?_
  refine aw_seq ?_
  obtain ⟨x1, h2, hg⟩ := bnd_o hg
  refine rg (Z := Zt) 0 0 [(1, .vf (.tup [(.d (eS x1.1)), (.d (eI64 x1.2))]))] [.vf 187 [(.d (eSuper s))]] [(2, (.ptr 0 0)), (3, (.ptr 1 0)), (4, (.ptr 2 0)), (6, (.d (eS x1.1))), (7, (.d (eI64 x1.2)))] [(.var (.d (eDisk d))), (.var (.d (eSuper s))), (.var (.agg [(.full (([] : (List Str)).map eS)), (.full (([] : (List Write)).map eWrite)), (.d (eI64 (0 : Int))), (.d (eB false))]))] [] hmx (by kernel_rfl) (good_vf (t_super_Encode h2) rfl rfl good_nil) ?_
  refine aw_seq ?_
  refine aw_seq ?_
  rcases Bool.eq_false_or_eq_true (x1.2 != (0 : Int)) with h3 | h3
  · have hg := ite_t hg h3
    refine rg (Z := Zt) 0 0 [(2, .op (.val (.d (eB true))))] [.op (some (.val (.d (eB (x1.2 != (0 : Int))))))] [(2, (.ptr 0 0)), (4, (.ptr 2 0)), (6, (.d (eS x1.1))), (20, (.d (eB true)))] [(.var (.d (eDisk d))), (.var (.d (eSuper s))), (.var (.agg [(.full (([] : (List Str)).map eS)), (.full (([] : (List Write)).map eWrite)), (.d (eI64 (0 : Int))), (.d (eB false))]))] [] hmx (by kernel_rfl) (good_op (bo h3) good_nil) ?_
    refine cd_t rfl (by kernel_rfl) ?_
    refine aw_seq ?_
    refine rg (Z := Zt) 0 0 [] [] [(4, (.ptr 2 0)), (5, (.d (eI64 (1 : Int))))] [(.var (.d (eDisk d))), (.var (.d (eSuper s))), (.var (.d (eDisk d)))] [] hmx (by kernel_rfl) good_nil ?_
    refine aw_ret ?_
    have hg := some_o hg
    subst hg
    exact lv_r [true, true] [] (by kernel_rfl)
  · have hg := ite_f hg h3
    obtain ⟨x4, h5, hg⟩ := let_o hg
    refine rg (Z := Zt) 0 0 [(2, .op (.val (.d (eB false)))), (5, .vf (.d (eB x4)))] [.op (some (.val (.d (eB (x1.2 != (0 : Int)))))), .vf 146 [(.d (eDisk d)), (.d (eSuper s))]] [(2, (.ptr 0 0)), (4, (.ptr 2 0)), (6, (.d (eS x1.1))), (20, (.d (eB (!x4))))] [(.var (.d (eDisk d))), (.var (.d (eSuper s))), (.var (.agg [(.full (([] : (List Str)).map eS)), (.full (([] : (List Write)).map eWrite)), (.d (eI64 (0 : Int))), (.d (eB false))]))] [] hmx (by kernel_rfl) (good_op (bo h3) (good_vf (t_meta_Fits h5) rfl rfl good_nil)) ?_
    rcases Bool.eq_false_or_eq_true (!x4) with h6 | h6
    · have hg := ite_t hg h6
      refine cd_t h6 (by kernel_rfl) ?_
      refine aw_seq ?_
      refine rg (Z := Zt) 0 0 [] [] [(4, (.ptr 2 0)), (5, (.d (eI64 (1 : Int))))] [(.var (.d (eDisk d))), (.var (.d (eSuper s))), (.var (.d (eDisk d)))] [] hmx (by kernel_rfl) good_nil ?_
      refine aw_ret ?_
      have hg := some_o hg
      subst hg
      exact lv_r [true, true] [] (by kernel_rfl)
    · have hg := ite_f hg h6
      refine cd_f h6 (by kernel_rfl) ?_
      refine aw_skip ?_
      refine aw_seq ?_
      refine aw_seq ?_
      obtain ⟨x7, h8, hg⟩ := bnd_o hg
      refine rg (Z := Zt) 0 0 [(2, .vf (.tup [(.d (eDisk x7.1)), (.d (eI64 x7.2))]))] [.vf 141 [(.d (eDisk d)), (.d (eI64 (0 : Int))), (.d (eS x1.1))]] [(2, (.ptr 0 0)), (4, (.ptr 2 0)), (7, (.d (eI64 x7.2)))] [(.var (.d (eDisk x7.1))), (.var (.d (eSuper s))), (.var (.agg [(.full (([] : (List Str)).map eS)), (.full (([] : (List Write)).map eWrite)), (.d (eI64 (0 : Int))), (.d (eB false))]))] [] hmx (by kernel_rfl) (good_vf (t_disk_Write h8) rfl rfl good_nil) ?_
      refine aw_seq ?_
      refine rg (Z := Zt) 0 0 [] [] [(2, (.ptr 0 0)), (4, (.ptr 2 0)), (7, (.d (eI64 x7.2))), (29, (.d (eB (x7.2 != (0 : Int)))))] [(.var (.d (eDisk x7.1))), (.var (.d (eSuper s))), (.var (.agg [(.full (([] : (List Str)).map eS)), (.full (([] : (List Write)).map eWrite)), (.d (eI64 (0 : Int))), (.d (eB false))]))] [] hmx (by kernel_rfl) good_nil ?_
      rcases Bool.eq_false_or_eq_true (x7.2 != (0 : Int)) with h9 | h9
      · have hg := ite_t hg h9
        refine cd_t h9 (by kernel_rfl) ?_
        refine aw_seq ?_
        refine rg (Z := Zt) 0 0 [] [] [(4, (.ptr 2 0)), (5, (.d (eI64 x7.2)))] [(.var (.d (eDisk x7.1))), (.var (.d (eSuper s))), (.var (.d (eDisk x7.1)))] [] hmx (by kernel_rfl) good_nil ?_
        refine aw_ret ?_
        have hg := some_o hg
        subst hg
        exact lv_r [true, true] [] (by kernel_rfl)
      · have hg := ite_f hg h9
        refine cd_f h9 (by kernel_rfl) ?_
        refine aw_skip ?_
        refine aw_seq ?_
        obtain ⟨x10, h11, hg⟩ := bnd_o hg
        refine rg (Z := Zt) 0 0 [(1, .vf (.tup [(.d (eDisk x10.1)), (.d (eI64 x10.2))]))] [.vf 139 [(.d (eDisk x7.1))]] [(4, (.ptr 2 0)), (5, (.d (eI64 x10.2)))] [(.var (.d (eDisk x7.1))), (.var (.d (eSuper s))), (.var (.d (eDisk x10.1)))] [] hmx (by kernel_rfl) (good_vf (t_disk_Flush h11) rfl rfl good_nil) ?_
        refine aw_ret ?_
        have hg := some_o hg
        subst hg
        exact lv_r [true, true] [] (by kernel_rfl)

/- store.Commit -/
def store_Commit (n : Nat) (s : Store) (b : Super) : Option (Store × Int) :=
  (bif (D.beq (eSuper b) (eSuper s.super)) then (some (s, (0 : Int))) else (Bnd (meta_Commit n s.disk b) fun x2 => (bif (x2.2 == (0 : Int)) then (some ((Store.mk x2.1 b s.mask), x2.2)) else (some ((Store.mk x2.1 s.super s.mask), x2.2)))))
theorem t_store_Commit {n : Nat} {s : Store} {b : Super} {r : (Store × Int)} (hg : store_Commit n s b = some r) : VF Pg 59 [(.d (eStore s)), (.d (eSuper b))] (single [(.d (eStore r.1)), (.d (eI64 r.2))]) := by
  refine fn_ok (fn := Tryz.f59) (by kernel_rfl) rfl (by kernel_rfl) (Nat.le_of_ble_eq_true (by kernel_rfl)) fun B hB => ?_
  refine aw_seq ?_
  refine rg (Z := Zt) 3 0 [] [] [(2, (.ptr 0 0)), (3, (.ptr 1 0)), (4, (.ptr 2 0))] [(.var (.d (eStore s))), (.var (.d (eSuper b))), (.var (.agg [(.agg [(.full (([] : (List Str)).map eS)), (.full (([] : (List Write)).map eWrite)), (.d (eI64 (0 : Int))), (.d (eB false))]), (.agg [(.d (eI64 (0 : Int))), (.agg [(.d (eU64 (0 : Int))), (.d (eU64 (0 : Int))), (.agg [(.d (eU64 (0 : Int))), (.d (eU64 (0 : Int)))])]), (.d (eB false)), (.d (eB false)), (.d (eB false))]), (.d (eU32 (0 : Int)))]))] [] hmx (by kernel_rfl) good_nil ?_
  refine aw_seq ?_
  refine aw_seq ?_
  refine rg (Z := Zt) 0 0 [] [] [(2, (.ptr 0 0)), (3, (.ptr 1 0)), (4, (.ptr 2 0)), (9, (.d (eB (D.beq (eSuper b) (eSuper s.super)))))] [(.var (.d (eStore s))), (.var (.d (eSuper b))), (.var (.agg [(.agg [(.full (([] : (List Str)).map eS)), (.full (([] : (List Write)).map eWrite)), (.d (eI64 (0 : Int))), (.d (eB false))]), (.agg [(.d (eI64 (0 : Int))), (.agg [(.d (eU64 (0 : Int))), (.d (eU64 (0 : Int))), (.agg [(.d (eU64 (0 : Int))), (.d (eU64 (0 : Int)))])]), (.d (eB false)), (.d (eB false)), (.d (eB false))]), (.d (eU32 (0 : Int)))]))] [] hmx (by kernel_rfl) good_nil ?_
  rcases Bool.eq_false_or_eq_true (D.beq (eSuper b) (eSuper s.super)) with h1 | h1
  · have hg := ite_t hg h1
    refine cd_t h1 (by kernel_rfl) ?_
    refine aw_seq ?_
    refine rg (Z := Zt) 0 0 [] [] [(4, (.ptr 2 0)), (5, (.d (eI64 (0 : Int))))] [(.var (.d (eStore s))), (.var (.d (eSuper b))), (.var (.d (eStore s)))] [] hmx (by kernel_rfl) good_nil ?_
    refine aw_ret ?_
    have hg := some_o hg
    subst hg
    exact lv_r [true, true] [] (by kernel_rfl)
  · have hg := ite_f hg h1
    refine cd_f h1 (by kernel_rfl) ?_
    refine aw_skip ?_
    refine aw_seq ?_
    refine aw_seq ?_
    obtain ⟨x2, h3, hg⟩ := bnd_o hg
    refine rg (Z := Zt) 0 0 [(3, .vf (.tup [(.d (eDisk x2.1)), (.d (eI64 x2.2))]))] [.vf 122 [(.d (eDisk s.disk)), (.d (eSuper b))]] [(2, (.ptr 0 0)), (3, (.ptr 1 0)), (4, (.ptr 2 0)), (5, (.d (eI64 x2.2)))] [(.var (.d (eStore (Store.mk x2.1 s.super s.mask)))), (.var (.d (eSuper b))), (.var (.agg [(.agg [(.full (([] : (List Str)).map eS)), (.full (([] : (List Write)).map eWrite)), (.d (eI64 (0 : Int))), (.d (eB false))]), (.agg [(.d (eI64 (0 : Int))), (.agg [(.d (eU64 (0 : Int))), (.d (eU64 (0 : Int))), (.agg [(.d (eU64 (0 : Int))), (.d (eU64 (0 : Int)))])]), (.d (eB false)), (.d (eB false)), (.d (eB false))]), (.d (eU32 (0 : Int)))]))] [] hmx (by kernel_rfl) (good_vf (t_meta_Commit h3) rfl rfl good_nil) ?_
    refine aw_seq ?_
    refine rg (Z := Zt) 0 0 [] [] [(2, (.ptr 0 0)), (3, (.ptr 1 0)), (4, (.ptr 2 0)), (5, (.d (eI64 x2.2))), (20, (.d (eB (x2.2 == (0 : Int)))))] [(.var (.d (eStore (Store.mk x2.1 s.super s.mask)))), (.var (.d (eSuper b))), (.var (.agg [(.agg [(.full (([] : (List Str)).map eS)), (.full (([] : (List Write)).map eWrite)), (.d (eI64 (0 : Int))), (.d (eB false))]), (.agg [(.d (eI64 (0 : Int))), (.agg [(.d (eU64 (0 : Int))), (.d (eU64 (0 : Int))), (.agg [(.d (eU64 (0 : Int))), (.d (eU64 (0 : Int)))])]), (.d (eB false)), (.d (eB false)), (.d (eB false))]), (.d (eU32 (0 : Int)))]))] [] hmx (by kernel_rfl) good_nil ?_
    rcases Bool.eq_false_or_eq_true (x2.2 == (0 : Int)) with h4 | h4
    · have hg := ite_t hg h4
      refine cd_t h4 (by kernel_rfl) ?_
      refine rg (Z := Zt) 0 0 [] [] [(2, (.ptr 0 0)), (4, (.ptr 2 0)), (5, (.d (eI64 x2.2)))] [(.var (.d (eStore (Store.mk x2.1 b s.mask)))), (.var (.d (eSuper b))), (.var (.agg [(.agg [(.full (([] : (List Str)).map eS)), (.full (([] : (List Write)).map eWrite)), (.d (eI64 (0 : Int))), (.d (eB false))]), (.agg [(.d (eI64 (0 : Int))), (.agg [(.d (eU64 (0 : Int))), (.d (eU64 (0 : Int))), (.agg [(.d (eU64 (0 : Int))), (.d (eU64 (0 : Int)))])]), (.d (eB false)), (.d (eB false)), (.d (eB false))]), (.d (eU32 (0 : Int)))]))] [] hmx (by kernel_rfl) good_nil ?_
      refine aw_seq ?_
      refine rg (Z := Zt) 0 0 [] [] [(4, (.ptr 2 0)), (5, (.d (eI64 x2.2)))] [(.var (.d (eStore (Store.mk x2.1 b s.mask)))), (.var (.d (eSuper b))), (.var (.d (eStore (Store.mk x2.1 b s.mask))))] [] hmx (by kernel_rfl) good_nil ?_
      refine aw_ret ?_
      have hg := some_o hg
      subst hg
      exact lv_r [true, true] [] (by kernel_rfl)
    · have hg := ite_f hg h4
      refine cd_f h4 (by kernel_rfl) ?_
      refine aw_skip ?_
      refine aw_seq ?_
      refine rg (Z := Zt) 0 0 [] [] [(4, (.ptr 2 0)), (5, (.d (eI64 x2.2)))] [(.var (.d (eStore (Store.mk x2.1 s.super s.mask)))), (.var (.d (eSuper b))), (.var (.d (eStore (Store.mk x2.1 s.super s.mask))))] [] hmx (by kernel_rfl) good_nil ?_
      refine aw_ret ?_
      have hg := some_o hg
      subst hg
      exact lv_r [true, true] [] (by kernel_rfl)

/- mask.Union -/
def mask_Union_L1 (n : Nat) (l : (List Int)) (v3 : Int) (v4 : Int) : Option Int :=
  match n with
  | 0 => none
  | n + 1 => (bif (decide (v4 < (l.length : Int))) then (Chk (inR v4 l.length) (mask_Union_L1 n l (orU32 v3 (gt l v4)) (wI64 (v4 + (1 : Int))))) else (some v3))
def mask_Union (n : Nat) (l : (List Int)) : Option Int :=
  (mask_Union_L1 n l (0 : Int) (0 : Int))
theorem t_mask_Union {n : Nat} {l : (List Int)} {r : Int} (hg : mask_Union n l = some r) : VF Pg 123 [(.d ((eL eU32) l))] (single [(.d (eU32 r))]) := by
  refine fn_ok (fn := Tryz.f123) (by kernel_rfl) rfl (by kernel_rfl) (Nat.le_of_ble_eq_true (by kernel_rfl)) fun B hB => ?_
  refine aw_seq ?_
  refine rg (Z := Zt) 0 0 [] [] [(0, (.d ((eL eU32) l))), (2, (.d (eU32 (0 : Int))))] [] [] hmx (by kernel_rfl) good_nil ?_
  refine aw_seq ?_
  refine aw_seq ?_
  refine rg (Z := Zt) 0 0 [(1, .op (.val (.d (eI64 (l.length : Int)))))] [.op (xLen Pg 174 (.d ((eL eU32) l)))] [(2, (.d (eU32 (0 : Int)))), (5, (.d ((eL eU32) l))), (6, (.d (eI64 (l.length : Int)))), (7, (.d (eI64 (0 : Int))))] [] [] hmx (by kernel_rfl) (good_op (len_d (e := 35) (by kernel_rfl)) good_nil) ?_
  refine aw_block ?_
  refine aw_loop (fun μ σ => ∃ (v3 : Int) (v4 : Int), μ ≤ n ∧ mask_Union_L1 μ l v3 v4 = some r ∧ Wk B σ (st Tryz.f123.ntmps [(2, (.d (eU32 v3))), (5, (.d ((eL eU32) l))), (6, (.d (eI64 (l.length : Int)))), (7, (.d (eI64 v4)))] [] [])) n ⟨(0 : Int), (0 : Int), Nat.le_refl _, hg, (Wk.refl _)⟩ ?_
  rintro μ σ ⟨v3, v4, hle, hg, hwk⟩
  refine aw_wk hwk ?_
  clear hwk
  cases μ with
  | zero => exact absurd (show none = some r from hg) (by simp)
  | succ n =>
    refine aw_seq ?_
    refine rg (Z := Zt) 0 0 [] [] [(2, (.d (eU32 v3))), (5, (.d ((eL eU32) l))), (6, (.d (eI64 (l.length : Int)))), (7, (.d (eI64 v4))), (8, (.d (eB (decide (v4 < (l.length : Int))))))] [] [] hmx (by kernel_rfl) good_nil ?_
    refine aw_seq ?_
    rcases Bool.eq_false_or_eq_true (decide (v4 < (l.length : Int))) with h7 | h7
    · have hg := ite_t hg h7
      refine cd_t h7 (by kernel_rfl) ?_
      refine aw_skip ?_
      refine aw_seq ?_
      refine aw_block ?_
      refine aw_seq ?_
      obtain ⟨h8, hg⟩ := chk_o hg
      refine rg (Z := Zt) 0 0 [(0, .op (.val (.kp (eU32 (gt l v4)))))] [.op (xIdA Pg 174 (.d ((eL eU32) l)) (.d (eI64 v4)))] [(2, (.d (eU32 v3))), (4, (.d (eU32 (gt l v4)))), (5, (.d ((eL eU32) l))), (6, (.d (eI64 (l.length : Int)))), (7, (.d (eI64 v4)))] [] [] hmx (by kernel_rfl) (good_op (idx_d (s := 1) (b := false) (by_ := 4) (by kernel_rfl) (fun _ => rfl) h8) good_nil) ?_
      refine rg (Z := Zt) 0 0 [] [] [(2, (.d (eU32 (orU32 v3 (gt l v4))))), (5, (.d ((eL eU32) l))), (6, (.d (eI64 (l.length : Int)))), (7, (.d (eI64 v4)))] [] [] hmx (by kernel_rfl) good_nil ?_
      refine rg (Z := Zt) 0 0 [] [] [(2, (.d (eU32 (orU32 v3 (gt l v4))))), (5, (.d ((eL eU32) l))), (6, (.d (eI64 (l.length : Int)))), (7, (.d (eI64 (wI64 (v4 + (1 : Int))))))] [] [] hmx (by kernel_rfl) good_nil ?_
      exact ⟨n, by omega, (orU32 v3 (gt l v4)), (wI64 (v4 + (1 : Int))), by omega, hg, (Wk.refl _)⟩
    · have hg := ite_f hg h7
      refine cd_f h7 (by kernel_rfl) ?_
      refine aw_exit ?_
      refine aw_seq ?_
      refine rg (Z := Zt) 0 0 [] [] [(2, (.d (eU32 v3)))] [] [] hmx (by kernel_rfl) good_nil ?_
      refine aw_ret ?_
      have hg := some_o hg
      subst hg
      exact lv_r [true] [] (by kernel_rfl)

/- store.Join -/
def store_Join (n : Nat) (s : Store) (m : Int) : Option (Store × Int) :=
  (Bnd (mask_Union n ([s.mask, m] : (List Int))) fun x1 => (Bnd (store_keep_74 n s x1) fun x3 => (some (x3.1, x3.2))))
theorem t_store_Join {n : Nat} {s : Store} {m : Int} {r : (Store × Int)} (hg : store_Join n s m = some r) : VF Pg 60 [(.d (eStore s)), (.d (eU32 m))] (single [(.d (eStore r.1)), (.d (eI64 r.2))]) := by
  refine fn_ok (fn := Tryz.f60) (by kernel_rfl) rfl (by kernel_rfl) (Nat.le_of_ble_eq_true (by kernel_rfl)) fun B hB => ?_
  refine aw_seq ?_
  refine rg (Z := Zt) 2 0 [] [] [(1, (.d (eU32 m))), (2, (.ptr 0 0)), (4, (.ptr 1 0))] [(.var (.d (eStore s))), (.var (.agg [(.agg [(.full (([] : (List Str)).map eS)), (.full (([] : (List Write)).map eWrite)), (.d (eI64 (0 : Int))), (.d (eB false))]), (.agg [(.d (eI64 (0 : Int))), (.agg [(.d (eU64 (0 : Int))), (.d (eU64 (0 : Int))), (.agg [(.d (eU64 (0 : Int))), (.d (eU64 (0 : Int)))])]), (.d (eB false)), (.d (eB false)), (.d (eB false))]), (.d (eU32 (0 : Int)))]))] [] hmx (by kernel_rfl) good_nil ?_
  refine aw_seq ?_
  obtain ⟨x1, h2, hg⟩ := bnd_o hg
  obtain ⟨x3, h4, hg⟩ := bnd_o hg
  refine rg (Z := Zt) 0 0 [(5, .vf (.d (eU32 x1))), (6, .vf (.tup [(.d (eStore x3.1)), (.d (eI64 x3.2))]))] [.vf 123 [(.d ((eL eU32) ([s.mask, m] : (List Int))))], .vf 72 [(.d (eStore s)), (.d (eU32 x1)), (.fn 74 [])]] [(4, (.ptr 1 0)), (5, (.d (eI64 x3.2)))] [(.var (.d (eStore s))), (.var (.d (eStore x3.1)))] [] hmx (by kernel_rfl) (good_vf (t_mask_Union h2) rfl rfl (good_vf (t_store_keep_74 h4) rfl rfl good_nil)) ?_
  refine aw_ret ?_
  have hg := some_o hg
  subst hg
  exact lv_r [true, true] [] (by kernel_rfl)

/- slices.Equal[[]string,string] -/
def slices_Equal_string_string_L1 (n : Nat) (s1 : (List Str)) (s2 : (List Str)) (v6 : Int) : Option Bool :=
  match n with
  | 0 => none
  | n + 1 => (bif (decide (v6 < (s1.length : Int))) then (Chk (inR v6 s1.length) (Chk (inR v6 s2.length) (bif (!((gt s1 v6) == (gt s2 v6))) then (some false) else (slices_Equal_string_string_L1 n s1 s2 (wI64 (v6 + (1 : Int))))))) else (some true))
def slices_Equal_string_string (n : Nat) (s1 : (List Str)) (s2 : (List Str)) : Option Bool :=
  (bif ((s1.length : Int) != (s2.length : Int)) then (some false) else (slices_Equal_string_string_L1 n s1 s2 (0 : Int)))
theorem t_slices_Equal_string_string {n : Nat} {s1 : (List Str)} {s2 : (List Str)} {r : Bool} (hg : slices_Equal_string_string n s1 s2 = some r) : VF Pg 181 [(.d ((eL eS) s1)), (.d ((eL eS) s2))] (single [(.d (eB r))]) := by
  refine fn_ok (fn := Tryz.f181) (by kernel_rfl) rfl (by kernel_rfl) (Nat.le_of_ble_eq_true (by kernel_rfl)) fun B hB => ?_
  refine aw_seq ?_
  refine rg (Z := Zt) 0 0 [] [] [(0, (.d ((eL eS) s1))), (1, (.d ((eL eS) s2)))] [] [] hmx (by kernel_rfl) good_nil ?_
  refine aw_seq ?_
  refine aw_seq ?_
  refine rg (Z := Zt) 0 0 [(1, .op (.val (.d (eI64 (s1.length : Int))))), (3, .op (.val (.d (eI64 (s2.length : Int)))))] [.op (xLen Pg 25 (.d ((eL eS) s1))), .op (xLen Pg 25 (.d ((eL eS) s2)))] [(0, (.d ((eL eS) s1))), (1, (.d ((eL eS) s2))), (10, (.d (eB ((s1.length : Int) != (s2.length : Int)))))] [] [] hmx (by kernel_rfl) (good_op (len_d (e := 9) (by kernel_rfl)) (good_op (len_d (e := 9) (by kernel_rfl)) good_nil)) ?_
  rcases Bool.eq_false_or_eq_true ((s1.length : Int) != (s2.length : Int)) with h1 | h1
  · have hg := ite_t hg h1
    refine cd_t h1 (by kernel_rfl) ?_
    refine aw_seq ?_
    refine rg (Z := Zt) 0 0 [] [] [(4, (.d (eB false)))] [] [] hmx (by kernel_rfl) good_nil ?_
    refine aw_ret ?_
    have hg := some_o hg
    subst hg
    exact lv_r [true] [] (by kernel_rfl)
  · have hg := ite_f hg h1
    refine cd_f h1 (by kernel_rfl) ?_
    refine aw_skip ?_
    refine aw_seq ?_
    refine aw_seq ?_
    refine rg (Z := Zt) 0 0 [(1, .op (.val (.d (eI64 (s1.length : Int)))))] [.op (xLen Pg 25 (.d ((eL eS) s1)))] [(0, (.d ((eL eS) s1))), (1, (.d ((eL eS) s2))), (12, (.d (eI64 (s1.length : Int)))), (13, (.d (eI64 (0 : Int))))] [] [] hmx (by kernel_rfl) (good_op (len_d (e := 9) (by kernel_rfl)) good_nil) ?_
    refine aw_block ?_
    refine aw_loop (fun μ σ => ∃ (v6 : Int), μ ≤ n ∧ slices_Equal_string_string_L1 μ s1 s2 v6 = some r ∧ Wk B σ (st Tryz.f181.ntmps [(0, (.d ((eL eS) s1))), (1, (.d ((eL eS) s2))), (12, (.d (eI64 (s1.length : Int)))), (13, (.d (eI64 v6)))] [] [])) n ⟨(0 : Int), Nat.le_refl _, hg, (Wk.refl _)⟩ ?_
    rintro μ σ ⟨v6, hle, hg, hwk⟩
    refine aw_wk hwk ?_
    clear hwk
    cases μ with
    | zero => exact absurd (show none = some r from hg) (by simp)
    | succ n =>
      refine aw_seq ?_
      refine rg (Z := Zt) 0 0 [] [] [(0, (.d ((eL eS) s1))), (1, (.d ((eL eS) s2))), (12, (.d (eI64 (s1.length : Int)))), (13, (.d (eI64 v6))), (14, (.d (eB (decide (v6 < (s1.length : Int))))))] [] [] hmx (by kernel_rfl) good_nil ?_
      refine aw_seq ?_
      rcases Bool.eq_false_or_eq_true (decide (v6 < (s1.length : Int))) with h11 | h11
      · have hg := ite_t hg h11
        refine cd_t h11 (by kernel_rfl) ?_
        refine aw_skip ?_
        refine aw_seq ?_
        refine aw_block ?_
        refine aw_seq ?_
        refine rg (Z := Zt) 0 0 [] [] [(0, (.d ((eL eS) s1))), (1, (.d ((eL eS) s2))), (5, (.d (eI64 v6))), (12, (.d (eI64 (s1.length : Int)))), (13, (.d (eI64 v6)))] [] [] hmx (by kernel_rfl) good_nil ?_
        refine aw_seq ?_
        obtain ⟨h12, hg⟩ := chk_o hg
        obtain ⟨h13, hg⟩ := chk_o hg
        refine rg (Z := Zt) 0 0 [(2, .op (.val (.kp (eS (gt s1 v6))))), (6, .op (.val (.kp (eS (gt s2 v6)))))] [.op (xIdA Pg 25 (.d ((eL eS) s1)) (.d (eI64 v6))), .op (xIdA Pg 25 (.d ((eL eS) s2)) (.d (eI64 v6)))] [(0, (.d ((eL eS) s1))), (1, (.d ((eL eS) s2))), (12, (.d (eI64 (s1.length : Int)))), (13, (.d (eI64 v6))), (24, (.d (eB (!((gt s1 v6) == (gt s2 v6))))))] [] [] hmx (by kernel_rfl) (good_op (idx_d (s := 1) (b := false) (by_ := 16) (by kernel_rfl) (fun _ => rfl) h12) (good_op (idx_d (s := 1) (b := false) (by_ := 16) (by kernel_rfl) (fun _ => rfl) h13) good_nil)) ?_
        rcases Bool.eq_false_or_eq_true (!((gt s1 v6) == (gt s2 v6))) with h14 | h14
        · have hg := ite_t hg h14
          refine cd_t h14 (by kernel_rfl) ?_
          refine aw_seq ?_
          refine rg (Z := Zt) 0 0 [] [] [(4, (.d (eB false)))] [] [] hmx (by kernel_rfl) good_nil ?_
          refine aw_ret ?_
          have hg := some_o hg
          subst hg
          exact lv_r [true] [] (by kernel_rfl)
        · have hg := ite_f hg h14
          refine cd_f h14 (by kernel_rfl) ?_
          refine aw_skip ?_
          refine rg (Z := Zt) 0 0 [] [] [(0, (.d ((eL eS) s1))), (1, (.d ((eL eS) s2))), (12, (.d (eI64 (s1.length : Int)))), (13, (.d (eI64 (wI64 (v6 + (1 : Int))))))] [] [] hmx (by kernel_rfl) good_nil ?_
          exact ⟨n, by omega, (wI64 (v6 + (1 : Int))), by omega, hg, (Wk.refl _)⟩
      · have hg := ite_f hg h11
        refine cd_f h11 (by kernel_rfl) ?_
        refine aw_exit ?_
        refine aw_seq ?_
        refine rg (Z := Zt) 0 0 [] [] [(4, (.d (eB true)))] [] [] hmx (by kernel_rfl) good_nil ?_
        refine aw_ret ?_
        have hg := some_o hg
        subst hg
        exact lv_r [true] [] (by kernel_rfl)

/- slices.Equal[[]api.Write,api.Write] -/
def slices_Equal_api_Write_api_Write_L1 (n : Nat) (s1 : (List Write)) (s2 : (List Write)) (v6 : Int) : Option Bool :=
  match n with
  | 0 => none
  | n + 1 => (bif (decide (v6 < (s1.length : Int))) then (Chk (inR v6 s1.length) (Chk (inR v6 s2.length) (bif (!(D.beq (eWrite (gt s1 v6)) (eWrite (gt s2 v6)))) then (some false) else (slices_Equal_api_Write_api_Write_L1 n s1 s2 (wI64 (v6 + (1 : Int))))))) else (some true))
def slices_Equal_api_Write_api_Write (n : Nat) (s1 : (List Write)) (s2 : (List Write)) : Option Bool :=
  (bif ((s1.length : Int) != (s2.length : Int)) then (some false) else (slices_Equal_api_Write_api_Write_L1 n s1 s2 (0 : Int)))
theorem t_slices_Equal_api_Write_api_Write {n : Nat} {s1 : (List Write)} {s2 : (List Write)} {r : Bool} (hg : slices_Equal_api_Write_api_Write n s1 s2 = some r) : VF Pg 188 [(.d ((eL eWrite) s1)), (.d ((eL eWrite) s2))] (single [(.d (eB r))]) := by
  refine fn_ok (fn := Tryz.f188) (by kernel_rfl) rfl (by kernel_rfl) (Nat.le_of_ble_eq_true (by kernel_rfl)) fun B hB => ?_
  refine aw_seq ?_
  refine rg (Z := Zt) 0 0 [] [] [(0, (.d ((eL eWrite) s1))), (1, (.d ((eL eWrite) s2)))] [] [] hmx (by kernel_rfl) good_nil ?_
  refine aw_seq ?_
  refine aw_seq ?_
  refine rg (Z := Zt) 0 0 [(1, .op (.val (.d (eI64 (s1.length : Int))))), (3, .op (.val (.d (eI64 (s2.length : Int)))))] [.op (xLen Pg 26 (.d ((eL eWrite) s1))), .op (xLen Pg 26 (.d ((eL eWrite) s2)))] [(0, (.d ((eL eWrite) s1))), (1, (.d ((eL eWrite) s2))), (10, (.d (eB ((s1.length : Int) != (s2.length : Int)))))] [] [] hmx (by kernel_rfl) (good_op (len_d (e := 126) (by kernel_rfl)) (good_op (len_d (e := 126) (by kernel_rfl)) good_nil)) ?_
  rcases Bool.eq_false_or_eq_true ((s1.length : Int) != (s2.length : Int)) with h1 | h1
  · have hg := ite_t hg h1
    refine cd_t h1 (by kernel_rfl) ?_
    refine aw_seq ?_
    refine rg (Z := Zt) 0 0 [] [] [(4, (.d (eB false)))] [] [] hmx (by kernel_rfl) good_nil ?_
    refine aw_ret ?_
    have hg := some_o hg
    subst hg
    exact lv_r [true] [] (by kernel_rfl)
  · have hg := ite_f hg h1
    refine cd_f h1 (by kernel_rfl) ?_
    refine aw_skip ?_
    refine aw_seq ?_
    refine aw_seq ?_
    refine rg (Z := Zt) 0 0 [(1, .op (.val (.d (eI64 (s1.length : Int)))))] [.op (xLen Pg 26 (.d ((eL eWrite) s1)))] [(0, (.d ((eL eWrite) s1))), (1, (.d ((eL eWrite) s2))), (12, (.d (eI64 (s1.length : Int)))), (13, (.d (eI64 (0 : Int))))] [] [] hmx (by kernel_rfl) (good_op (len_d (e := 126) (by kernel_rfl)) good_nil) ?_
    refine aw_block ?_
    refine aw_loop (fun μ σ => ∃ (v6 : Int), μ ≤ n ∧ slices_Equal_api_Write_api_Write_L1 μ s1 s2 v6 = some r ∧ Wk B σ (st Tryz.f188.ntmps [(0, (.d ((eL eWrite) s1))), (1, (.d ((eL eWrite) s2))), (12, (.d (eI64 (s1.length : Int)))), (13, (.d (eI64 v6)))] [] [])) n ⟨(0 : Int), Nat.le_refl _, hg, (Wk.refl _)⟩ ?_
    rintro μ σ ⟨v6, hle, hg, hwk⟩
    refine aw_wk hwk ?_
    clear hwk
    cases μ with
    | zero => exact absurd (show none = some r from hg) (by simp)
    | succ n =>
      refine aw_seq ?_
      refine rg (Z := Zt) 0 0 [] [] [(0, (.d ((eL eWrite) s1))), (1, (.d ((eL eWrite) s2))), (12, (.d (eI64 (s1.length : Int)))), (13, (.d (eI64 v6))), (14, (.d (eB (decide (v6 < (s1.length : Int))))))] [] [] hmx (by kernel_rfl) good_nil ?_
      refine aw_seq ?_
      rcases Bool.eq_false_or_eq_true (decide (v6 < (s1.length : Int))) with h11 | h11
      · have hg := ite_t hg h11
        refine cd_t h11 (by kernel_rfl) ?_
        refine aw_skip ?_
        refine aw_seq ?_
        refine aw_block ?_
        refine aw_seq ?_
        refine rg (Z := Zt) 0 0 [] [] [(0, (.d ((eL eWrite) s1))), (1, (.d ((eL eWrite) s2))), (5, (.d (eI64 v6))), (12, (.d (eI64 (s1.length : Int)))), (13, (.d (eI64 v6)))] [] [] hmx (by kernel_rfl) good_nil ?_
        refine aw_seq ?_
        obtain ⟨h12, hg⟩ := chk_o hg
        obtain ⟨h13, hg⟩ := chk_o hg
        refine rg (Z := Zt) 0 0 [(2, .op (.val (.kp (eWrite (gt s1 v6))))), (6, .op (.val (.kp (eWrite (gt s2 v6)))))] [.op (xIdA Pg 26 (.d ((eL eWrite) s1)) (.d (eI64 v6))), .op (xIdA Pg 26 (.d ((eL eWrite) s2)) (.d (eI64 v6)))] [(0, (.d ((eL eWrite) s1))), (1, (.d ((eL eWrite) s2))), (12, (.d (eI64 (s1.length : Int)))), (13, (.d (eI64 v6))), (24, (.d (eB (!(D.beq (eWrite (gt s1 v6)) (eWrite (gt s2 v6)))))))] [] [] hmx (by kernel_rfl) (good_op (idx_d (s := 2) (b := true) (by_ := 24) (by kernel_rfl) (fun _ => rfl) h12) (good_op (idx_d (s := 2) (b := true) (by_ := 24) (by kernel_rfl) (fun _ => rfl) h13) good_nil)) ?_
        rcases Bool.eq_false_or_eq_true (!(D.beq (eWrite (gt s1 v6)) (eWrite (gt s2 v6)))) with h14 | h14
        · have hg := ite_t hg h14
          refine cd_t h14 (by kernel_rfl) ?_
          refine aw_seq ?_
          refine rg (Z := Zt) 0 0 [] [] [(4, (.d (eB false)))] [] [] hmx (by kernel_rfl) good_nil ?_
          refine aw_ret ?_
          have hg := some_o hg
          subst hg
          exact lv_r [true] [] (by kernel_rfl)
        · have hg := ite_f hg h14
          refine cd_f h14 (by kernel_rfl) ?_
          refine aw_skip ?_
          refine rg (Z := Zt) 0 0 [] [] [(0, (.d ((eL eWrite) s1))), (1, (.d ((eL eWrite) s2))), (12, (.d (eI64 (s1.length : Int)))), (13, (.d (eI64 (wI64 (v6 + (1 : Int))))))] [] [] hmx (by kernel_rfl) good_nil ?_
          exact ⟨n, by omega, (wI64 (v6 + (1 : Int))), by omega, hg, (Wk.refl _)⟩
      · have hg := ite_f hg h11
        refine cd_f h11 (by kernel_rfl) ?_
        refine aw_exit ?_
        refine aw_seq ?_
        refine rg (Z := Zt) 0 0 [] [] [(4, (.d (eB true)))] [] [] hmx (by kernel_rfl) good_nil ?_
        refine aw_ret ?_
        have hg := some_o hg
        subst hg
        exact lv_r [true] [] (by kernel_rfl)

/- disk.Same -/
def disk_Same (n : Nat) (a : Disk) (b : Disk) : Option Bool :=
  (Bnd (slices_Equal_string_string n a.sure b.sure) fun x1 => (bif x1 then (Bnd (slices_Equal_api_Write_api_Write n a.cache b.cache) fun x4 => (bif x4 then (bif (a.fuse == b.fuse) then (some (a.dead == b.dead)) else (some false)) else (some false))) else (some false)))
theorem t_disk_Same {n : Nat} {a : Disk} {b : Disk} {r : Bool} (hg : disk_Same n a b = some r) : VF Pg 124 [(.d (eDisk a)), (.d (eDisk b))] (single [(.d (eB r))]) := by
  refine fn_ok (fn := Tryz.f124) (by kernel_rfl) rfl (by kernel_rfl) (Nat.le_of_ble_eq_true (by kernel_rfl)) fun B hB => ?_
  refine aw_seq ?_
  refine rg (Z := Zt) 2 0 [] [] [(2, (.ptr 0 0)), (3, (.ptr 1 0))] [(.var (.d (eDisk a))), (.var (.d (eDisk b)))] [] hmx (by kernel_rfl) good_nil ?_
  refine aw_seq ?_
  obtain ⟨x1, h2, hg⟩ := bnd_o hg
  rcases Bool.eq_false_or_eq_true x1 with h3 | h3
  · have hg := ite_t hg h3
    obtain ⟨x4, h5, hg⟩ := bnd_o hg
    rcases Bool.eq_false_or_eq_true x4 with h6 | h6
    · have hg := ite_t hg h6
      rcases Bool.eq_false_or_eq_true (a.fuse == b.fuse) with h7 | h7
      · have hg := ite_t hg h7
        refine rg (Z := Zt) 0 0 [(4, .vf (.d (eB x1))), (5, .op (.val (.d (eB true)))), (10, .vf (.d (eB x4))), (12, .op (.val (.d (eB true)))), (19, .op (.val (.d (eB true))))] [.vf 181 [(.d ((eL eS) a.sure)), (.d ((eL eS) b.sure))], .op (some (.val (.d (eB x1)))), .vf 188 [(.d ((eL eWrite) a.cache)), (.d ((eL eWrite) b.cache))], .op (some (.val (.d (eB x4)))), .op (some (.val (.d (eB (a.fuse == b.fuse)))))] [(4, (.d (eB (a.dead == b.dead))))] [(.var (.d (eDisk a))), (.var (.d (eDisk b)))] [] hmx (by kernel_rfl) (good_vf (t_slices_Equal_string_string h2) rfl rfl (good_op (bo h3) (good_vf (t_slices_Equal_api_Write_api_Write h5) rfl rfl (good_op (bo h6) (good_op (bo h7) good_nil))))) ?_
        refine aw_ret ?_
        have hg := some_o hg
        subst hg
        exact lv_r [true] [] (by kernel_rfl)
      · have hg := ite_f hg h7
        refine rg (Z := Zt) 0 0 [(4, .vf (.d (eB x1))), (5, .op (.val (.d (eB true)))), (10, .vf (.d (eB x4))), (12, .op (.val (.d (eB true)))), (19, .op (.val (.d (eB false))))] [.vf 181 [(.d ((eL eS) a.sure)), (.d ((eL eS) b.sure))], .op (some (.val (.d (eB x1)))), .vf 188 [(.d ((eL eWrite) a.cache)), (.d ((eL eWrite) b.cache))], .op (some (.val (.d (eB x4)))), .op (some (.val (.d (eB (a.fuse == b.fuse)))))] [(4, (.d (eB false)))] [(.var (.d (eDisk a))), (.var (.d (eDisk b)))] [] hmx (by kernel_rfl) (good_vf (t_slices_Equal_string_string h2) rfl rfl (good_op (bo h3) (good_vf (t_slices_Equal_api_Write_api_Write h5) rfl rfl (good_op (bo h6) (good_op (bo h7) good_nil))))) ?_
        refine aw_ret ?_
        have hg := some_o hg
        subst hg
        exact lv_r [true] [] (by kernel_rfl)
    · have hg := ite_f hg h6
      refine rg (Z := Zt) 0 0 [(4, .vf (.d (eB x1))), (5, .op (.val (.d (eB true)))), (10, .vf (.d (eB x4))), (12, .op (.val (.d (eB false))))] [.vf 181 [(.d ((eL eS) a.sure)), (.d ((eL eS) b.sure))], .op (some (.val (.d (eB x1)))), .vf 188 [(.d ((eL eWrite) a.cache)), (.d ((eL eWrite) b.cache))], .op (some (.val (.d (eB x4))))] [(4, (.d (eB false)))] [(.var (.d (eDisk a))), (.var (.d (eDisk b)))] [] hmx (by kernel_rfl) (good_vf (t_slices_Equal_string_string h2) rfl rfl (good_op (bo h3) (good_vf (t_slices_Equal_api_Write_api_Write h5) rfl rfl (good_op (bo h6) good_nil)))) ?_
      refine aw_ret ?_
      have hg := some_o hg
      subst hg
      exact lv_r [true] [] (by kernel_rfl)
  · have hg := ite_f hg h3
    refine rg (Z := Zt) 0 0 [(4, .vf (.d (eB x1))), (5, .op (.val (.d (eB false))))] [.vf 181 [(.d ((eL eS) a.sure)), (.d ((eL eS) b.sure))], .op (some (.val (.d (eB x1))))] [(4, (.d (eB false)))] [(.var (.d (eDisk a))), (.var (.d (eDisk b)))] [] hmx (by kernel_rfl) (good_vf (t_slices_Equal_string_string h2) rfl rfl (good_op (bo h3) good_nil)) ?_
    refine aw_ret ?_
    have hg := some_o hg
    subst hg
    exact lv_r [true] [] (by kernel_rfl)

/- store.Same -/
def store_Same (n : Nat) (a : Store) (b : Store) : Option Bool :=
  (Bnd (disk_Same n a.disk b.disk) fun x1 => (bif x1 then (bif (D.beq (eSuper a.super) (eSuper b.super)) then (some (a.mask == b.mask)) else (some false)) else (some false)))
theorem t_store_Same {n : Nat} {a : Store} {b : Store} {r : Bool} (hg : store_Same n a b = some r) : VF Pg 61 [(.d (eStore a)), (.d (eStore b))] (single [(.d (eB r))]) := by
  refine fn_ok (fn := Tryz.f61) (by kernel_rfl) rfl (by kernel_rfl) (Nat.le_of_ble_eq_true (by kernel_rfl)) fun B hB => ?_
  refine aw_seq ?_
  refine rg (Z := Zt) 2 0 [] [] [(2, (.ptr 0 0)), (3, (.ptr 1 0))] [(.var (.d (eStore a))), (.var (.d (eStore b)))] [] hmx (by kernel_rfl) good_nil ?_
  refine aw_seq ?_
  obtain ⟨x1, h2, hg⟩ := bnd_o hg
  rcases Bool.eq_false_or_eq_true x1 with h3 | h3
  · have hg := ite_t hg h3
    rcases Bool.eq_false_or_eq_true (D.beq (eSuper a.super) (eSuper b.super)) with h4 | h4
    · have hg := ite_t hg h4
      refine rg (Z := Zt) 0 0 [(4, .vf (.d (eB x1))), (5, .op (.val (.d (eB true)))), (12, .op (.val (.d (eB true))))] [.vf 124 [(.d (eDisk a.disk)), (.d (eDisk b.disk))], .op (some (.val (.d (eB x1)))), .op (some (.val (.d (eB (D.beq (eSuper a.super) (eSuper b.super))))))] [(4, (.d (eB (a.mask == b.mask))))] [(.var (.d (eStore a))), (.var (.d (eStore b)))] [] hmx (by kernel_rfl) (good_vf (t_disk_Same h2) rfl rfl (good_op (bo h3) (good_op (bo h4) good_nil))) ?_
      refine aw_ret ?_
      have hg := some_o hg
      subst hg
      exact lv_r [true] [] (by kernel_rfl)
    · have hg := ite_f hg h4
      refine rg (Z := Zt) 0 0 [(4, .vf (.d (eB x1))), (5, .op (.val (.d (eB true)))), (12, .op (.val (.d (eB false))))] [.vf 124 [(.d (eDisk a.disk)), (.d (eDisk b.disk))], .op (some (.val (.d (eB x1)))), .op (some (.val (.d (eB (D.beq (eSuper a.super) (eSuper b.super))))))] [(4, (.d (eB false)))] [(.var (.d (eStore a))), (.var (.d (eStore b)))] [] hmx (by kernel_rfl) (good_vf (t_disk_Same h2) rfl rfl (good_op (bo h3) (good_op (bo h4) good_nil))) ?_
      refine aw_ret ?_
      have hg := some_o hg
      subst hg
      exact lv_r [true] [] (by kernel_rfl)
  · have hg := ite_f hg h3
    refine rg (Z := Zt) 0 0 [(4, .vf (.d (eB x1))), (5, .op (.val (.d (eB false))))] [.vf 124 [(.d (eDisk a.disk)), (.d (eDisk b.disk))], .op (some (.val (.d (eB x1))))] [(4, (.d (eB false)))] [(.var (.d (eStore a))), (.var (.d (eStore b)))] [] hmx (by kernel_rfl) (good_vf (t_disk_Same h2) rfl rfl (good_op (bo h3) good_nil)) ?_
    refine aw_ret ?_
    have hg := some_o hg
    subst hg
    exact lv_r [true] [] (by kernel_rfl)
end Go.Am
