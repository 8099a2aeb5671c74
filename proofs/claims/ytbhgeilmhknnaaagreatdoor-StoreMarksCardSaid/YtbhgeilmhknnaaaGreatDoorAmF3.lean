/- Printed by geng.py: functions of the program as Lean functions, with the proofs that the code comes to them. -/
import Derived.Test.YtbhgeilmhknnaaaGreatDoorAmF2
namespace Go.Am
open Go.Proofs
set_option maxRecDepth 100000
/- disk.there -/
def disk_there (d : Disk) (i : Int) : Bool :=
  (bif (decide (i ≥ (0 : Int))) then (decide (i < (d.sure.length : Int))) else false)
theorem t_disk_there {d : Disk} {i : Int} {r : Bool} (hg : disk_there d i = r) : VF Pg 206 [(.d (eDisk d)), (.d (eI64 i))] (single [(.d (eB r))]) := by
  refine fn_ok (fn := Tryz.f206) (by kernel_rfl) rfl (by kernel_rfl) (Nat.le_of_ble_eq_true (by kernel_rfl)) fun B hB => ?_
  refine aw_seq ?_
  refine rg (Z := Zt) 1 0 [] [] [(1, (.d (eI64 i))), (2, (.ptr 0 0))] [(.var (.d (eDisk d)))] [] hmx (by kernel_rfl) good_nil ?_
  refine aw_seq ?_
  rcases Bool.eq_false_or_eq_true (decide (i ≥ (0 : Int))) with h1 | h1
  · have hg := ite_t hg h1
    refine rg (Z := Zt) 0 0 [(2, .op (.val (.d (eB true)))), (6, .op (.val (.d (eI64 (d.sure.length : Int)))))] [.op (some (.val (.d (eB (decide (i ≥ (0 : Int))))))), .op (xLen Pg 25 (.d ((eL eS) d.sure)))] [(4, (.d (eB (decide (i < (d.sure.length : Int))))))] [(.var (.d (eDisk d)))] [] hmx (by kernel_rfl) (good_op (bo h1) (good_op (len_d (e := 9) (by kernel_rfl)) good_nil)) ?_
    refine aw_ret ?_
    subst hg
    exact lv_r [true] [] (by kernel_rfl)
  · have hg := ite_f hg h1
    refine rg (Z := Zt) 0 0 [(2, .op (.val (.d (eB false))))] [.op (some (.val (.d (eB (decide (i ≥ (0 : Int)))))))] [(4, (.d (eB false)))] [(.var (.d (eDisk d)))] [] hmx (by kernel_rfl) (good_op (bo h1) good_nil) ?_
    refine aw_ret ?_
    subst hg
    exact lv_r [true] [] (by kernel_rfl)

/- disk.long -/
def disk_long (s : Str) : Bool :=
  (decide ((s.length : Int) > (64 : Int)))
theorem t_disk_long {s : Str} {r : Bool} (hg : disk_long s = r) : VF Pg 207 [(.d (eS s))] (single [(.d (eB r))]) := by
  refine fn_ok (fn := Tryz.f207) (by kernel_rfl) rfl (by kernel_rfl) (Nat.le_of_ble_eq_true (by kernel_rfl)) fun B hB => ?_
  refine aw_seq ?_
  refine rg (Z := Zt) 0 0 [] [] [(0, (.d (eS s)))] [] [] hmx (by kernel_rfl) good_nil ?_
  refine aw_seq ?_
  refine rg (Z := Zt) 0 0 [] [] [(2, (.d (eB (decide ((s.length : Int) > (64 : Int))))))] [] [] hmx (by kernel_rfl) good_nil ?_
  refine aw_ret ?_
  subst hg
  exact lv_r [true] [] (by kernel_rfl)

/- slices.Clip[[]api.Write,api.Write] -/
def slices_Clip_api_Write_api_Write (s : (List Write)) : (List Write) :=
  s
theorem t_slices_Clip_api_Write_api_Write {s : (List Write)} {r : (List Write)} (hg : slices_Clip_api_Write_api_Write s = r) : VF Pg 208 [(.d ((eL eWrite) s))] (single [(.full (r.map eWrite))]) := by
  refine fn_ok (fn := Tryz.f208) (by kernel_rfl) rfl (by kernel_rfl) (Nat.le_of_ble_eq_true (by kernel_rfl)) fun B hB => ?_
  refine aw_seq ?_
  refine rg (Z := Zt) 0 0 [] [] [(0, (.d ((eL eWrite) s)))] [] [] hmx (by kernel_rfl) good_nil ?_
  refine aw_seq ?_
  refine rg (Z := Zt) 0 0 [(2, .op (.val (.d (eI64 (s.length : Int))))), (4, .op (.val (.d (eI64 (s.length : Int))))), (5, .op (.val (.full (s.map eWrite))))] [.op (xLen Pg 26 (.d ((eL eWrite) s))), .op (xLen Pg 26 (.d ((eL eWrite) s))), .op (evSlice Pg 26 (.d ((eL eWrite) s)) none (some (.d (eI64 (s.length : Int)))) (some (.d (eI64 (s.length : Int)))) [])] [(2, (.full (s.map eWrite)))] [] [] hmx (by kernel_rfl) (good_op (len_d (e := 126) (by kernel_rfl)) (good_op (len_d (e := 126) (by kernel_rfl)) (good_op (clip_d (s := 2) (g := true) (y := 24) (by kernel_rfl) (fun _ => rfl)) good_nil))) ?_
  refine aw_ret ?_
  subst hg
  exact lv_r [false] [] (by kernel_rfl)

/- slices.Clone[[]api.Write,api.Write] -/
def slices_Clone_api_Write_api_Write (s : (List Write)) : Option (List Write) :=
  (Chk (appOK 0 s.length 24) (some s))
theorem t_slices_Clone_api_Write_api_Write {s : (List Write)} {r : (List Write)} (hg : slices_Clone_api_Write_api_Write s = some r) : VF Pg 209 [(.d ((eL eWrite) s))] (single [(.d ((eL eWrite) r))]) := by
  refine fn_ok (fn := Tryz.f209) (by kernel_rfl) rfl (by kernel_rfl) (Nat.le_of_ble_eq_true (by kernel_rfl)) fun B hB => ?_
  refine aw_seq ?_
  refine rg (Z := Zt) 0 0 [] [] [(0, (.d ((eL eWrite) s)))] [] [] hmx (by kernel_rfl) good_nil ?_
  refine aw_seq ?_
  refine aw_nil (e := 126) (l1 := [(0, (.d ((eL eWrite) s)))]) (L := (s.map eWrite)) rfl rfl (by kernel_rfl) (by kernel_rfl) (by kernel_rfl) (by kernel_rfl) (by kernel_rfl) ?_ ?_
  · intro e
    obtain rfl := List.map_eq_nil_iff.1 e
    obtain ⟨_, hg⟩ := chk_o hg
    refine aw_seq ?_
    refine rg (Z := Zt) 0 0 [] [] [(2, (.full (([] : (List Write)).map eWrite)))] [] [] hmx (by kernel_rfl) good_nil ?_
    refine aw_ret ?_
    have hg := some_o hg
    subst hg
    exact lv_r [true] [] (by kernel_rfl)
  · refine aw_skip ?_
    refine aw_seq ?_
    obtain ⟨h1, hg⟩ := chk_o hg
    refine rg (Z := Zt) 0 1 [(2, .op (.tok 0 s.length (.own (s.map eWrite) 0)))] [.op (evBuiltin Pg .append [26, 26] [(.full (([] : (List Write)).map eWrite)), (.d ((eL eWrite) s))] [none] 0)] [(2, (.own (s.map eWrite) 0))] [] [(some s.length)] hmx (by kernel_rfl) (good_op (app_full (s := 2) (b := true) (by_ := 24) (s' := 2) (b' := true) (y' := 24) (l := ([] : (List Write))) (m := s) (f := eWrite) (by kernel_rfl) (by kernel_rfl) (by kernel_rfl) (by decide) (fun _ => rfl) rfl rfl h1) good_nil) ?_
    refine aw_ret ?_
    have hg := some_o hg
    subst hg
    exact lv_r [true] [] (by kernel_rfl)

/- disk.Write -/
def disk_Write (d : Disk) (i : Int) (data : Str) : Option (Disk × Int) :=
  (bif d.dead then (some (d, (6 : Int))) else (Let (disk_there d i) fun x2 => (bif (!x2) then (some (d, (4 : Int))) else (Let (disk_long data) fun x5 => (bif x5 then (some (d, (5 : Int))) else (Let (disk_burn d) fun x8 => (bif (x8.1 != (0 : Int)) then (some (x8.2, x8.1)) else (Bnd (slices_Clone_api_Write_api_Write x8.2.cache) fun x11 => (Let (slices_Clip_api_Write_api_Write x11) fun x13 => (Chk (appOK x13.length 1 24) (some ((Disk.mk x8.2.sure (x13 ++ ([(Write.mk i data)] : (List Write))) x8.2.fuse x8.2.dead), (0 : Int)))))))))))))
theorem t_disk_Write {d : Disk} {i : Int} {data : Str} {r : (Disk × Int)} (hg : disk_Write d i data = some r) : VF Pg 141 [(.d (eDisk d)), (.d (eI64 i)), (.d (eS data))] (single [(.d (eDisk r.1)), (.d (eI64 r.2))]) := by
  refine fn_ok (fn := Tryz.f141) (by kernel_rfl) rfl (by kernel_rfl) (Nat.le_of_ble_eq_true (by kernel_rfl)) fun B hB => ?_
  refine aw_seq ?_
  refine rg (Z := Zt) 2 0 [] [] [(1, (.d (eI64 i))), (2, (.d (eS data))), (3, (.ptr 0 0)), (6, (.ptr 1 0))] [(.var (.d (eDisk d))), (.var (.agg [(.full (([] : (List Str)).map eS)), (.full (([] : (List Write)).map eWrite)), (.d (eI64 (0 : Int))), (.d (eB false))]))] [] hmx (by kernel_rfl) good_nil ?_
  refine aw_seq ?_
  refine aw_block ?_
  refine aw_seq ?_
  refine rg (Z := Zt) 0 0 [] [] [(1, (.d (eI64 i))), (2, (.d (eS data))), (3, (.ptr 0 0)), (6, (.ptr 1 0)), (9, (.d (eB d.dead)))] [(.var (.d (eDisk d))), (.var (.agg [(.full (([] : (List Str)).map eS)), (.full (([] : (List Write)).map eWrite)), (.d (eI64 (0 : Int))), (.d (eB false))]))] [] hmx (by kernel_rfl) good_nil ?_
  rcases Bool.eq_false_or_eq_true d.dead with h1 | h1
  · have hg := ite_t hg h1
    refine cd_t h1 (by kernel_rfl) ?_
    refine aw_seq ?_
    refine rg (Z := Zt) 0 0 [] [] [(6, (.ptr 1 0)), (7, (.d (eI64 (6 : Int))))] [(.var (.d (eDisk d))), (.var (.d (eDisk d)))] [] hmx (by kernel_rfl) good_nil ?_
    refine aw_ret ?_
    have hg := some_o hg
    subst hg
    exact lv_r [true, true] [] (by kernel_rfl)
  · have hg := ite_f hg h1
    refine cd_f h1 (by kernel_rfl) ?_
    refine aw_seq ?_
    obtain ⟨x2, h3, hg⟩ := let_o hg
    refine rg (Z := Zt) 0 0 [(2, .vf (.d (eB x2)))] [.vf 206 [(.d (eDisk d)), (.d (eI64 i))]] [(1, (.d (eI64 i))), (2, (.d (eS data))), (3, (.ptr 0 0)), (6, (.ptr 1 0)), (13, (.d (eB (!x2))))] [(.var (.d (eDisk d))), (.var (.agg [(.full (([] : (List Str)).map eS)), (.full (([] : (List Write)).map eWrite)), (.d (eI64 (0 : Int))), (.d (eB false))]))] [] hmx (by kernel_rfl) (good_vf (t_disk_there h3) rfl rfl good_nil) ?_
    rcases Bool.eq_false_or_eq_true (!x2) with h4 | h4
    · have hg := ite_t hg h4
      refine cd_t h4 (by kernel_rfl) ?_
      refine aw_seq ?_
      refine rg (Z := Zt) 0 0 [] [] [(6, (.ptr 1 0)), (7, (.d (eI64 (4 : Int))))] [(.var (.d (eDisk d))), (.var (.d (eDisk d)))] [] hmx (by kernel_rfl) good_nil ?_
      refine aw_ret ?_
      have hg := some_o hg
      subst hg
      exact lv_r [true, true] [] (by kernel_rfl)
    · have hg := ite_f hg h4
      refine cd_f h4 (by kernel_rfl) ?_
      refine aw_seq ?_
      obtain ⟨x5, h6, hg⟩ := let_o hg
      refine rg (Z := Zt) 0 0 [(1, .vf (.d (eB x5)))] [.vf 207 [(.d (eS data))]] [(1, (.d (eI64 i))), (2, (.d (eS data))), (3, (.ptr 0 0)), (6, (.ptr 1 0)), (19, (.d (eB x5)))] [(.var (.d (eDisk d))), (.var (.agg [(.full (([] : (List Str)).map eS)), (.full (([] : (List Write)).map eWrite)), (.d (eI64 (0 : Int))), (.d (eB false))]))] [] hmx (by kernel_rfl) (good_vf (t_disk_long h6) rfl rfl good_nil) ?_
      rcases Bool.eq_false_or_eq_true x5 with h7 | h7
      · have hg := ite_t hg h7
        refine cd_t h7 (by kernel_rfl) ?_
        refine aw_seq ?_
        refine rg (Z := Zt) 0 0 [] [] [(6, (.ptr 1 0)), (7, (.d (eI64 (5 : Int))))] [(.var (.d (eDisk d))), (.var (.d (eDisk d)))] [] hmx (by kernel_rfl) good_nil ?_
        refine aw_ret ?_
        have hg := some_o hg
        subst hg
        exact lv_r [true, true] [] (by kernel_rfl)
      · have hg := ite_f hg h7
        refine cd_f h7 (by kernel_rfl) ?_
        refine aw_skip ?_
        refine aw_seq ?_
        refine aw_seq ?_
        obtain ⟨x8, h9, hg⟩ := let_o hg
        refine rg (Z := Zt) 0 0 [(0, .call (.d (eI64 x8.1)) [0] [(.var (.d (eDisk d)))] [(.var (.d (eDisk x8.2)))] [] [] [])] [.call 204 [(.ptr 0 0)] [(some (.var (.d (eDisk d))))] []] [(1, (.d (eI64 i))), (2, (.d (eS data))), (3, (.ptr 0 0)), (6, (.ptr 1 0)), (8, (.d (eI64 x8.1)))] [(.var (.d (eDisk x8.2))), (.var (.agg [(.full (([] : (List Str)).map eS)), (.full (([] : (List Write)).map eWrite)), (.d (eI64 (0 : Int))), (.d (eB false))]))] [] hmx (by kernel_rfl) (good_call rfl rfl (callL (argsR := [(.ptr 0 0)]) (ER := [(.var (.d (eDisk d)))]) (t_disk_burn h9) [0] [] [] (by kernel_rfl) (by kernel_rfl) (by kernel_rfl) (by kernel_rfl)) good_nil) ?_
        refine aw_seq ?_
        refine rg (Z := Zt) 0 0 [] [] [(1, (.d (eI64 i))), (2, (.d (eS data))), (3, (.ptr 0 0)), (6, (.ptr 1 0)), (8, (.d (eI64 x8.1))), (25, (.d (eB (x8.1 != (0 : Int)))))] [(.var (.d (eDisk x8.2))), (.var (.agg [(.full (([] : (List Str)).map eS)), (.full (([] : (List Write)).map eWrite)), (.d (eI64 (0 : Int))), (.d (eB false))]))] [] hmx (by kernel_rfl) good_nil ?_
        rcases Bool.eq_false_or_eq_true (x8.1 != (0 : Int)) with h10 | h10
        · have hg := ite_t hg h10
          refine cd_t h10 (by kernel_rfl) ?_
          refine aw_seq ?_
          refine rg (Z := Zt) 0 0 [] [] [(6, (.ptr 1 0)), (7, (.d (eI64 x8.1)))] [(.var (.d (eDisk x8.2))), (.var (.d (eDisk x8.2)))] [] hmx (by kernel_rfl) good_nil ?_
          refine aw_ret ?_
          have hg := some_o hg
          subst hg
          exact lv_r [true, true] [] (by kernel_rfl)
        · have hg := ite_f hg h10
          refine cd_f h10 (by kernel_rfl) ?_
          refine aw_skip ?_
          refine aw_seq ?_
          obtain ⟨x11, h12, hg⟩ := bnd_o hg
          obtain ⟨x13, h14, hg⟩ := let_o hg
          obtain ⟨h15, hg⟩ := chk_o hg
          refine rg (Z := Zt) 0 1 [(2, .vf (.d ((eL eWrite) x11))), (3, .vf (.full (x13.map eWrite))), (8, .op (.tok 0 (x13 ++ ([(Write.mk i data)] : (List Write))).length (.own ((x13 ++ ([(Write.mk i data)] : (List Write))).map eWrite) 0)))] [.vf 209 [(.d ((eL eWrite) x8.2.cache))], .vf 208 [(.d ((eL eWrite) x11))], .op (evBuiltin Pg .append [26, 26] [(.full (x13.map eWrite)), (.full (([(Write.mk i data)] : (List Write)).map eWrite))] [none] 0)] [(3, (.ptr 0 0)), (6, (.ptr 1 0))] [(.var (.d (eDisk (Disk.mk x8.2.sure (x13 ++ ([(Write.mk i data)] : (List Write))) x8.2.fuse x8.2.dead)))), (.var (.agg [(.full (([] : (List Str)).map eS)), (.full (([] : (List Write)).map eWrite)), (.d (eI64 (0 : Int))), (.d (eB false))]))] [(some (x13 ++ ([(Write.mk i data)] : (List Write))).length)] hmx (by kernel_rfl) (good_vf (t_slices_Clone_api_Write_api_Write h12) rfl rfl (good_vf (t_slices_Clip_api_Write_api_Write h14) rfl rfl (good_op (app_full (s := 2) (b := true) (by_ := 24) (s' := 2) (b' := true) (y' := 24) (l := x13) (m := ([(Write.mk i data)] : (List Write))) (f := eWrite) (by kernel_rfl) (by kernel_rfl) (by kernel_rfl) (by decide) (fun _ => rfl) rfl rfl h15) good_nil))) ?_
          refine aw_seq ?_
          refine rg (Z := Zt) 0 0 [] [] [(6, (.ptr 1 0)), (7, (.d (eI64 (0 : Int))))] [(.var (.d (eDisk (Disk.mk x8.2.sure (x13 ++ ([(Write.mk i data)] : (List Write))) x8.2.fuse x8.2.dead)))), (.var (.d (eDisk (Disk.mk x8.2.sure (x13 ++ ([(Write.mk i data)] : (List Write))) x8.2.fuse x8.2.dead))))] [(some (x13 ++ ([(Write.mk i data)] : (List Write))).length)] hmx (by kernel_rfl) good_nil ?_
          refine aw_ret ?_
          have hg := some_o hg
          subst hg
          exact lv_r [true, true] [] (by kernel_rfl)

/- num.put -/
def num_put_L1 (n : Nat) (n_ : Int) (size : Int) (v6 : Int) (v7 : (List Int)) : Option Str :=
  match n with
  | 0 => none
  | n + 1 => (bif (decide (v6 < (size.toNat : Int))) then (Chk (decide (0 ≤ (wI64 ((8 : Int) * v6)))) (Chk (inR (wI64 ((wI64 (size - (1 : Int))) - v6)) size.toNat) (Chk (decide ((wI64 ((wI64 (size - (1 : Int))) - v6)).toNat < v7.length)) (num_put_L1 n n_ size (wI64 (v6 + (1 : Int))) (v7.set (wI64 ((wI64 (size - (1 : Int))) - v6)).toNat (wU8 (shrU64 n_ (wI64 ((8 : Int) * v6))))))))) else (Chk (decide (v7.length = size.toNat)) (some (bytesOf v7))))
def num_put (n : Nat) (n_ : Int) (size : Int) : Option Str :=
  (Chk (mkOK size 1) (num_put_L1 n n_ size (0 : Int) (List.replicate size.toNat (0 : Int) : List Int)))
theorem t_num_put {n : Nat} {n_ : Int} {size : Int} {r : Str} (hg : num_put n n_ size = some r) : VF Pg 211 [(.d (eU64 n_)), (.d (eI64 size))] (single [(.d (eS r))]) := by
  refine fn_ok (fn := Tryz.f211) (by kernel_rfl) rfl (by kernel_rfl) (Nat.le_of_ble_eq_true (by kernel_rfl)) fun B hB => ?_
  refine aw_seq ?_
  refine rg (Z := Zt) 0 0 [] [] [(0, (.d (eU64 n_))), (1, (.d (eI64 size)))] [] [] hmx (by kernel_rfl) good_nil ?_
  refine aw_seq ?_
  obtain ⟨h1, hg⟩ := chk_o hg
  refine rg (Z := Zt) 1 0 [(1, .op (.box 0 (.row ((List.replicate size.toNat (0 : Int) : List Int).map eU8) 1) (.msl 0 size.toNat)))] [.op (evMake Pg Zt 239 (.d (eI64 size)) (.d (eI64 size)) [.hole] 0)] [(0, (.d (eU64 n_))), (1, (.d (eI64 size))), (5, (.msl 0 size.toNat))] [(.row ((List.replicate size.toNat (0 : Int) : List Int).map eU8) 1)] [] hmx (by kernel_rfl) (good_op (mk_row (e := 5) (z := (0 : Int)) (f := eU8) (b := false) (by kernel_rfl) (by kernel_rfl) (by kernel_rfl) rfl (by decide) (by kernel_rfl) rfl h1) good_nil) ?_
  refine aw_seq ?_
  refine aw_seq ?_
  refine rg (Z := Zt) 0 0 [] [] [(0, (.d (eU64 n_))), (1, (.d (eI64 size))), (5, (.msl 0 size.toNat)), (10, (.d (eI64 (size.toNat : Int)))), (11, (.d (eI64 (0 : Int))))] [(.row ((List.replicate size.toNat (0 : Int) : List Int).map eU8) 1)] [] hmx (by kernel_rfl) good_nil ?_
  refine aw_block ?_
  refine aw_loop (fun μ σ => ∃ (v6 : Int) (v7 : (List Int)), μ ≤ n ∧ num_put_L1 μ n_ size v6 v7 = some r ∧ Wk B σ (st Tryz.f211.ntmps [(0, (.d (eU64 n_))), (1, (.d (eI64 size))), (5, (.msl 0 size.toNat)), (10, (.d (eI64 (size.toNat : Int)))), (11, (.d (eI64 v6)))] [(.row (v7.map eU8) 1)] [])) n ⟨(0 : Int), (List.replicate size.toNat (0 : Int) : List Int), Nat.le_refl _, hg, (Wk.refl _)⟩ ?_
  rintro μ σ ⟨v6, v7, hle, hg, hwk⟩
  refine aw_wk hwk ?_
  clear hwk
  cases μ with
  | zero => exact absurd (show none = some r from hg) (by simp)
  | succ n =>
    refine aw_seq ?_
    refine rg (Z := Zt) 0 0 [] [] [(0, (.d (eU64 n_))), (1, (.d (eI64 size))), (5, (.msl 0 size.toNat)), (10, (.d (eI64 (size.toNat : Int)))), (11, (.d (eI64 v6))), (12, (.d (eB (decide (v6 < (size.toNat : Int))))))] [(.row (v7.map eU8) 1)] [] hmx (by kernel_rfl) good_nil ?_
    refine aw_seq ?_
    rcases Bool.eq_false_or_eq_true (decide (v6 < (size.toNat : Int))) with h13 | h13
    · have hg := ite_t hg h13
      refine cd_t h13 (by kernel_rfl) ?_
      refine aw_skip ?_
      refine aw_seq ?_
      refine aw_block ?_
      refine aw_seq ?_
      refine rg (Z := Zt) 0 0 [] [] [(0, (.d (eU64 n_))), (1, (.d (eI64 size))), (5, (.msl 0 size.toNat)), (6, (.d (eI64 v6))), (10, (.d (eI64 (size.toNat : Int)))), (11, (.d (eI64 v6)))] [(.row (v7.map eU8) 1)] [] hmx (by kernel_rfl) good_nil ?_
      obtain ⟨h14, hg⟩ := chk_o hg
      obtain ⟨h15, hg⟩ := chk_o hg
      obtain ⟨h16, hg⟩ := chk_o hg
      refine rg (Z := Zt) 0 0 [(8, .op (.val (.d (eU64 (shrU64 n_ (wI64 ((8 : Int) * v6))))))), (10, .op (.val (.eptr 0 (wI64 ((wI64 (size - (1 : Int))) - v6)).toNat 1))), (11, .op (.box 0 (.row ((v7.set (wI64 ((wI64 (size - (1 : Int))) - v6)).toNat (wU8 (shrU64 n_ (wI64 ((8 : Int) * v6))))).map eU8) 1) .any))] [.op (xBin Pg .shr 29 (.d (eU64 n_)) (.d (eI64 (wI64 ((8 : Int) * v6))))), .op (xIdA Pg 239 (.msl 0 size.toNat) (.d (eI64 (wI64 ((wI64 (size - (1 : Int))) - v6))))), .op (evStore Pg 5 (.eptr 0 (wI64 ((wI64 (size - (1 : Int))) - v6)).toNat 1) (.d (eU8 (wU8 (shrU64 n_ (wI64 ((8 : Int) * v6)))))) [(.row (v7.map eU8) 1)])] [(0, (.d (eU64 n_))), (1, (.d (eI64 size))), (5, (.msl 0 size.toNat)), (10, (.d (eI64 (size.toNat : Int)))), (11, (.d (eI64 v6)))] [(.row ((v7.set (wI64 ((wI64 (size - (1 : Int))) - v6)).toNat (wU8 (shrU64 n_ (wI64 ((8 : Int) * v6))))).map eU8) 1)] [] hmx (by kernel_rfl) (good_op (shr_ok h14) (good_op (idx_msl (s := 1) (b := false) (by_ := 1) (by kernel_rfl) h15) (good_op (st_row (x := (wU8 (shrU64 n_ (wI64 ((8 : Int) * v6))))) (s := 1) (b := false) (by kernel_rfl) (fun _ => rfl) rfl rfl rfl h16) good_nil))) ?_
      refine rg (Z := Zt) 0 0 [] [] [(0, (.d (eU64 n_))), (1, (.d (eI64 size))), (5, (.msl 0 size.toNat)), (10, (.d (eI64 (size.toNat : Int)))), (11, (.d (eI64 (wI64 (v6 + (1 : Int))))))] [(.row ((v7.set (wI64 ((wI64 (size - (1 : Int))) - v6)).toNat (wU8 (shrU64 n_ (wI64 ((8 : Int) * v6))))).map eU8) 1)] [] hmx (by kernel_rfl) good_nil ?_
      exact ⟨n, by omega, (wI64 (v6 + (1 : Int))), (v7.set (wI64 ((wI64 (size - (1 : Int))) - v6)).toNat (wU8 (shrU64 n_ (wI64 ((8 : Int) * v6))))), by omega, hg, (Wk.refl _)⟩
    · have hg := ite_f hg h13
      refine cd_f h13 (by kernel_rfl) ?_
      refine aw_exit ?_
      refine aw_seq ?_
      obtain ⟨h17, hg⟩ := chk_o hg
      refine rg (Z := Zt) 0 0 [(1, .op (.val (.d (eS (bytesOf v7)))))] [.op (xCv Pg 239 9 (.msl 0 size.toNat) [(.row (v7.map eU8) 1)])] [(4, (.d (eS (bytesOf v7))))] [(.row (v7.map eU8) 1)] [] hmx (by kernel_rfl) (good_op (cv_row (e := 5) (by kernel_rfl) (by kernel_rfl) (by kernel_rfl) rfl h17) good_nil) ?_
      refine aw_ret ?_
      have hg := some_o hg
      subst hg
      exact lv_r [true] [] (by kernel_rfl)

/- num.Put32 -/
def num_Put32 (n : Nat) (n_ : Int) : Option Str :=
  (Bnd (num_put n (wU64 n_) (4 : Int)) fun x1 => (some x1))
theorem t_num_Put32 {n : Nat} {n_ : Int} {r : Str} (hg : num_Put32 n n_ = some r) : VF Pg 143 [(.d (eU32 n_))] (single [(.d (eS r))]) := by
  refine fn_ok (fn := Tryz.f143) (by kernel_rfl) rfl (by kernel_rfl) (Nat.le_of_ble_eq_true (by kernel_rfl)) fun B hB => ?_
  refine aw_seq ?_
  refine rg (Z := Zt) 0 0 [] [] [(0, (.d (eU32 n_)))] [] [] hmx (by kernel_rfl) good_nil ?_
  refine aw_seq ?_
  obtain ⟨x1, h2, hg⟩ := bnd_o hg
  refine rg (Z := Zt) 0 0 [(2, .vf (.d (eS x1)))] [.vf 211 [(.d (eU64 (wU64 n_))), (.d (eI64 (4 : Int)))]] [(2, (.d (eS x1)))] [] [] hmx (by kernel_rfl) (good_vf (t_num_put h2) rfl rfl good_nil) ?_
  refine aw_ret ?_
  have hg := some_o hg
  subst hg
  exact lv_r [true] [] (by kernel_rfl)

/- check.Sum -/
def check_Sum_L1 (n : Nat) (s : Str) (v3 : Int) (v4 : Int) : Option Int :=
  match n with
  | 0 => none
  | n + 1 => (bif (decide (v4 < (s.length : Int))) then (Chk (inR v4 s.length) (check_Sum_L1 n s (wU32 ((xorU32 v3 (wU32 (bt s v4))) * (16777619 : Int))) (wI64 (v4 + (1 : Int))))) else (some v3))
def check_Sum (n : Nat) (s : Str) : Option Int :=
  (check_Sum_L1 n s (2166136261 : Int) (0 : Int))
theorem t_check_Sum {n : Nat} {s : Str} {r : Int} (hg : check_Sum n s = some r) : VF Pg 210 [(.d (eS s))] (single [(.d (eU32 r))]) := by
  refine fn_ok (fn := Tryz.f210) (by kernel_rfl) rfl (by kernel_rfl) (Nat.le_of_ble_eq_true (by kernel_rfl)) fun B hB => ?_
  refine aw_seq ?_
  refine rg (Z := Zt) 0 0 [] [] [(0, (.d (eS s)))] [] [] hmx (by kernel_rfl) good_nil ?_
  refine aw_seq ?_
  refine rg (Z := Zt) 0 0 [] [] [(0, (.d (eS s))), (3, (.d (eU32 (2166136261 : Int))))] [] [] hmx (by kernel_rfl) good_nil ?_
  refine aw_seq ?_
  refine aw_seq ?_
  refine rg (Z := Zt) 0 0 [] [] [(0, (.d (eS s))), (3, (.d (eU32 (2166136261 : Int)))), (6, (.d (eI64 (s.length : Int)))), (7, (.d (eI64 (0 : Int))))] [] [] hmx (by kernel_rfl) good_nil ?_
  refine aw_block ?_
  refine aw_loop (fun μ σ => ∃ (v3 : Int) (v4 : Int), μ ≤ n ∧ check_Sum_L1 μ s v3 v4 = some r ∧ Wk B σ (st Tryz.f210.ntmps [(0, (.d (eS s))), (3, (.d (eU32 v3))), (6, (.d (eI64 (s.length : Int)))), (7, (.d (eI64 v4)))] [] [])) n ⟨(2166136261 : Int), (0 : Int), Nat.le_refl _, hg, (Wk.refl _)⟩ ?_
  rintro μ σ ⟨v3, v4, hle, hg, hwk⟩
  refine aw_wk hwk ?_
  clear hwk
  cases μ with
  | zero => exact absurd (show none = some r from hg) (by simp)
  | succ n =>
    refine aw_seq ?_
    refine rg (Z := Zt) 0 0 [] [] [(0, (.d (eS s))), (3, (.d (eU32 v3))), (6, (.d (eI64 (s.length : Int)))), (7, (.d (eI64 v4))), (8, (.d (eB (decide (v4 < (s.length : Int))))))] [] [] hmx (by kernel_rfl) good_nil ?_
    refine aw_seq ?_
    rcases Bool.eq_false_or_eq_true (decide (v4 < (s.length : Int))) with h7 | h7
    · have hg := ite_t hg h7
      refine cd_t h7 (by kernel_rfl) ?_
      refine aw_skip ?_
      refine aw_seq ?_
      refine aw_block ?_
      refine aw_seq ?_
      refine rg (Z := Zt) 0 0 [] [] [(0, (.d (eS s))), (3, (.d (eU32 v3))), (4, (.d (eI64 v4))), (6, (.d (eI64 (s.length : Int)))), (7, (.d (eI64 v4)))] [] [] hmx (by kernel_rfl) good_nil ?_
      obtain ⟨h8, hg⟩ := chk_o hg
      refine rg (Z := Zt) 0 0 [(3, .op (.val (.d (eU8 (bt s v4)))))] [.op (xIdx Pg 9 (.d (eS s)) (.d (eI64 v4)))] [(0, (.d (eS s))), (3, (.d (eU32 (wU32 ((xorU32 v3 (wU32 (bt s v4))) * (16777619 : Int)))))), (6, (.d (eI64 (s.length : Int)))), (7, (.d (eI64 v4)))] [] [] hmx (by kernel_rfl) (good_op (idx_str (by kernel_rfl) h8) good_nil) ?_
      refine rg (Z := Zt) 0 0 [] [] [(0, (.d (eS s))), (3, (.d (eU32 (wU32 ((xorU32 v3 (wU32 (bt s v4))) * (16777619 : Int)))))), (6, (.d (eI64 (s.length : Int)))), (7, (.d (eI64 (wI64 (v4 + (1 : Int))))))] [] [] hmx (by kernel_rfl) good_nil ?_
      exact ⟨n, by omega, (wU32 ((xorU32 v3 (wU32 (bt s v4))) * (16777619 : Int))), (wI64 (v4 + (1 : Int))), by omega, hg, (Wk.refl _)⟩
    · have hg := ite_f hg h7
      refine cd_f h7 (by kernel_rfl) ?_
      refine aw_exit ?_
      refine aw_seq ?_
      refine rg (Z := Zt) 0 0 [] [] [(2, (.d (eU32 v3)))] [] [] hmx (by kernel_rfl) good_nil ?_
      refine aw_ret ?_
      have hg := some_o hg
      subst hg
      exact lv_r [true] [] (by kernel_rfl)

/- check.Seal -/
def check_Seal (n : Nat) (s : Str) : Option Str :=
  (Bnd (check_Sum n s) fun x1 => (Bnd (num_Put32 n x1) fun x3 => (Chk (catOK s x3) (some (s ++ x3)))))
theorem t_check_Seal {n : Nat} {s : Str} {r : Str} (hg : check_Seal n s = some r) : VF Pg 142 [(.d (eS s))] (single [(.d (eS r))]) := by
  refine fn_ok (fn := Tryz.f142) (by kernel_rfl) rfl (by kernel_rfl) (Nat.le_of_ble_eq_true (by kernel_rfl)) fun B hB => ?_
  refine aw_seq ?_
  refine rg (Z := Zt) 0 0 [] [] [(0, (.d (eS s)))] [] [] hmx (by kernel_rfl) good_nil ?_
  refine aw_seq ?_
  obtain ⟨x1, h2, hg⟩ := bnd_o hg
  obtain ⟨x3, h4, hg⟩ := bnd_o hg
  obtain ⟨h5, hg⟩ := chk_o hg
  refine rg (Z := Zt) 0 0 [(2, .vf (.d (eU32 x1))), (3, .vf (.d (eS x3))), (4, .op (.val (.d (eS (s ++ x3)))))] [.vf 210 [(.d (eS s))], .vf 143 [(.d (eU32 x1))], .op (xBin Pg .add 9 (.d (eS s)) (.d (eS x3)))] [(2, (.d (eS (s ++ x3))))] [] [] hmx (by kernel_rfl) (good_vf (t_check_Sum h2) rfl rfl (good_vf (t_num_Put32 h4) rfl rfl (good_op (cat_str h5) good_nil))) ?_
  refine aw_ret ?_
  have hg := some_o hg
  subst hg
  exact lv_r [true] [] (by kernel_rfl)

/- bits.Note -/
def bits_Note (n : Nat) (d : Disk) (m : Int) : Option (Disk × Int) :=
  (Bnd (bits_right d m) fun x1 => (bif (!x1) then (some (d, (1 : Int))) else (Bnd (num_Put32 n m) fun x4 => (Bnd (check_Seal n x4) fun x6 => (Bnd (disk_Write d (1 : Int) x6) fun x8 => (some (x8.1, x8.2)))))))
theorem t_bits_Note {n : Nat} {d : Disk} {m : Int} {r : (Disk × Int)} (hg : bits_Note n d m = some r) : VF Pg 76 [(.d (eDisk d)), (.d (eU32 m))] (single [(.d (eDisk r.1)), (.d (eI64 r.2))]) := by
  refine fn_ok (fn := Tryz.f76) (by kernel_rfl) rfl (by kernel_rfl) (Nat.le_of_ble_eq_true (by kernel_rfl)) fun B hB => ?_
  refine aw_seq ?_
  refine rg (Z := Zt) 2 0 [] [] [(1, (.d (eU32 m))), (2, (.ptr 0 0)), (4, (.ptr 1 0))] [(.var (.d (eDisk d))), (.var (.agg [(.full (([] : (List Str)).map eS)), (.full (([] : (List Write)).map eWrite)), (.d (eI64 (0 : Int))), (.d (eB false))]))] [] hmx (by kernel_rfl) good_nil ?_
  refine aw_seq ?_
  refine aw_seq ?_
  obtain ⟨x1, h2, hg⟩ := bnd_o hg
  refine rg (Z := Zt) 0 0 [(2, .vf (.d (eB x1)))] [.vf 140 [(.d (eDisk d)), (.d (eU32 m))]] [(1, (.d (eU32 m))), (2, (.ptr 0 0)), (4, (.ptr 1 0)), (9, (.d (eB (!x1))))] [(.var (.d (eDisk d))), (.var (.agg [(.full (([] : (List Str)).map eS)), (.full (([] : (List Write)).map eWrite)), (.d (eI64 (0 : Int))), (.d (eB false))]))] [] hmx (by kernel_rfl) (good_vf (t_bits_right h2) rfl rfl good_nil) ?_
  rcases Bool.eq_false_or_eq_true (!x1) with h3 | h3
  · have hg := ite_t hg h3
    refine cd_t h3 (by kernel_rfl) ?_
    refine aw_seq ?_
    refine rg (Z := Zt) 0 0 [] [] [(4, (.ptr 1 0)), (5, (.d (eI64 (1 : Int))))] [(.var (.d (eDisk d))), (.var (.d (eDisk d)))] [] hmx (by kernel_rfl) good_nil ?_
    refine aw_ret ?_
    have hg := some_o hg
    subst hg
    exact lv_r [true, true] [] (by kernel_rfl)
  · have hg := ite_f hg h3
    refine cd_f h3 (by kernel_rfl) ?_
    refine aw_skip ?_
    refine aw_seq ?_
    obtain ⟨x4, h5, hg⟩ := bnd_o hg
    obtain ⟨x6, h7, hg⟩ := bnd_o hg
    obtain ⟨x8, h9, hg⟩ := bnd_o hg
    refine rg (Z := Zt) 0 0 [(2, .vf (.d (eS x4))), (3, .vf (.d (eS x6))), (4, .vf (.tup [(.d (eDisk x8.1)), (.d (eI64 x8.2))]))] [.vf 143 [(.d (eU32 m))], .vf 142 [(.d (eS x4))], .vf 141 [(.d (eDisk d)), (.d (eI64 (1 : Int))), (.d (eS x6))]] [(4, (.ptr 1 0)), (5, (.d (eI64 x8.2)))] [(.var (.d (eDisk d))), (.var (.d (eDisk x8.1)))] [] hmx (by kernel_rfl) (good_vf (t_num_Put32 h5) rfl rfl (good_vf (t_check_Seal h7) rfl rfl (good_vf (t_disk_Write h9) rfl rfl good_nil))) ?_
    refine aw_ret ?_
    have hg := some_o hg
    subst hg
    exact lv_r [true, true] [] (by kernel_rfl)

/- slices.Clone[[]string,string] -/
def slices_Clone_string_string (s : (List Str)) : Option (List Str) :=
  (Chk (appOK 0 s.length 16) (some s))
theorem t_slices_Clone_string_string {s : (List Str)} {r : (List Str)} (hg : slices_Clone_string_string s = some r) : VF Pg 222 [(.d ((eL eS) s))] (single [(.d ((eL eS) r))]) := by
  refine fn_ok (fn := Tryz.f222) (by kernel_rfl) rfl (by kernel_rfl) (Nat.le_of_ble_eq_true (by kernel_rfl)) fun B hB => ?_
  refine aw_seq ?_
  refine rg (Z := Zt) 0 0 [] [] [(0, (.d ((eL eS) s)))] [] [] hmx (by kernel_rfl) good_nil ?_
  refine aw_seq ?_
  refine aw_nil (e := 9) (l1 := [(0, (.d ((eL eS) s)))]) (L := (s.map eS)) rfl rfl (by kernel_rfl) (by kernel_rfl) (by kernel_rfl) (by kernel_rfl) (by kernel_rfl) ?_ ?_
  · intro e
    obtain rfl := List.map_eq_nil_iff.1 e
    obtain ⟨_, hg⟩ := chk_o hg
    refine aw_seq ?_
    refine rg (Z := Zt) 0 0 [] [] [(2, (.full (([] : (List Str)).map eS)))] [] [] hmx (by kernel_rfl) good_nil ?_
    refine aw_ret ?_
    have hg := some_o hg
    subst hg
    exact lv_r [true] [] (by kernel_rfl)
  · refine aw_skip ?_
    refine aw_seq ?_
    obtain ⟨h1, hg⟩ := chk_o hg
    refine rg (Z := Zt) 0 1 [(2, .op (.tok 0 s.length (.own (s.map eS) 0)))] [.op (evBuiltin Pg .append [25, 25] [(.full (([] : (List Str)).map eS)), (.d ((eL eS) s))] [none] 0)] [(2, (.own (s.map eS) 0))] [] [(some s.length)] hmx (by kernel_rfl) (good_op (app_full (s := 1) (b := false) (by_ := 16) (s' := 1) (b' := false) (y' := 16) (l := ([] : (List Str))) (m := s) (f := eS) (by kernel_rfl) (by kernel_rfl) (by kernel_rfl) (by decide) (fun _ => rfl) rfl rfl h1) good_nil) ?_
    refine aw_ret ?_
    have hg := some_o hg
    subst hg
    exact lv_r [true] [] (by kernel_rfl)

/- slices.Clone[[]string,string] -/
def slices_Clone_string_string_row (s : (List Str)) : Option (List Str) :=
  (Chk (decide (s.length * 16 ≤ 140737488355328) && !(s.length == 0)) (some s))
theorem t_slices_Clone_string_string_row {s : (List Str)} {r : (List Str)} (hg : slices_Clone_string_string_row s = some r) : CallOK Pg 222 [(.d ((eL eS) s))] [.hole] [] (single [(.msl 0 r.length)]) [(.row (r.map eS) 1)] [] := by
  refine fn_ok (fn := Tryz.f222) (by kernel_rfl) rfl (by kernel_rfl) (Nat.le_of_ble_eq_true (by kernel_rfl)) fun B hB => ?_
  refine aw_seq ?_
  refine rg (Z := Zt) 0 0 [] [] [(0, (.d ((eL eS) s)))] [.hole] [] hmx (by kernel_rfl) good_nil ?_
  refine aw_seq ?_
  refine aw_nil (e := 9) (l1 := [(0, (.d ((eL eS) s)))]) (L := (s.map eS)) rfl rfl (by kernel_rfl) (by kernel_rfl) (by kernel_rfl) (by kernel_rfl) (by kernel_rfl) ?_ ?_
  · intro e
    obtain rfl := List.map_eq_nil_iff.1 e
    obtain ⟨hc, _⟩ := chk_o hg
    exact absurd hc (by simp)
  · refine aw_skip ?_
    refine aw_seq ?_
    obtain ⟨h1, hg⟩ := chk_o hg
    refine rg (Z := Zt) 0 1 [(2, .row 0 (.box 0 (.row (s.map eS) 1) (.msl 0 s.length)))] [.op (evAppR Pg 25 25 (.full (([] : (List Str)).map eS)) (.d ((eL eS) s)) [.hole] 0)] [(2, (.msl 0 s.length))] [(.row (s.map eS) 1)] [none] hmx (by kernel_rfl) (good_row (row_app (s := 1) (b := false) (by_ := 16) (s' := 1) (b' := false) (y' := 16) (m := s) (f := eS) (by kernel_rfl) (by kernel_rfl) (by decide) (fun _ => rfl) rfl rfl h1) good_nil) ?_
    refine aw_ret ?_
    have hg := some_o hg
    subst hg
    exact lv_r [false] [] (by kernel_rfl)

/- disk.settle -/
def disk_settle_L1 (n : Nat) (sure : (List Str)) (writes : (List Write)) (x1 : (List Str)) (v8 : Int) (v9 : (List Str)) : Option (List Str) :=
  match n with
  | 0 => none
  | n + 1 => (bif (decide (v8 < (writes.length : Int))) then (Chk (inR v8 writes.length) (Chk (inR (gt writes v8).sector x1.length) (Chk (decide (((gt writes v8).sector).toNat < v9.length)) (disk_settle_L1 n sure writes x1 (wI64 (v8 + (1 : Int))) (v9.set ((gt writes v8).sector).toNat ((gt writes v8).data)))))) else (Chk (decide (x1.length = v9.length)) (some v9)))
def disk_settle (n : Nat) (sure : (List Str)) (writes : (List Write)) : Option (List Str) :=
  (Bnd (slices_Clone_string_string_row sure) fun x1 => (disk_settle_L1 n sure writes x1 (0 : Int) x1))
theorem t_disk_settle {n : Nat} {sure : (List Str)} {writes : (List Write)} {r : (List Str)} (hg : disk_settle n sure writes = some r) : VF Pg 155 [(.d ((eL eS) sure)), (.d ((eL eWrite) writes))] (single [(.d ((eL eS) r))]) := by
  refine fn_ok (fn := Tryz.f155) (by kernel_rfl) rfl (by kernel_rfl) (Nat.le_of_ble_eq_true (by kernel_rfl)) fun B hB => ?_
  refine aw_seq ?_
  refine rg (Z := Zt) 0 0 [] [] [(0, (.d ((eL eS) sure))), (1, (.d ((eL eWrite) writes)))] [] [] hmx (by kernel_rfl) good_nil ?_
  refine aw_seq ?_
  refine aw_wk (wk_hole 1) ?_
  obtain ⟨x1, h2, hg⟩ := bnd_o hg
  refine rg (Z := Zt) 0 0 [(1, .call (.msl 0 x1.length) [0] [.hole] [(.row (x1.map eS) 1)] [] [] [])] [.call 222 [(.d ((eL eS) sure))] [(some .hole)] []] [(0, (.msl 0 x1.length)), (1, (.d ((eL eWrite) writes)))] [(.row (x1.map eS) 1)] [] hmx (by kernel_rfl) (good_call rfl rfl (callL (argsR := [(.d ((eL eS) sure))]) (ER := [.hole]) (t_slices_Clone_string_string_row h2) [0] [] [] (by kernel_rfl) (by kernel_rfl) (by kernel_rfl) (by kernel_rfl)) good_nil) ?_
  refine aw_seq ?_
  refine aw_seq ?_
  refine rg (Z := Zt) 0 0 [(1, .op (.val (.d (eI64 (writes.length : Int)))))] [.op (xLen Pg 26 (.d ((eL eWrite) writes)))] [(0, (.msl 0 x1.length)), (9, (.d ((eL eWrite) writes))), (10, (.d (eI64 (writes.length : Int)))), (11, (.d (eI64 (0 : Int))))] [(.row (x1.map eS) 1)] [] hmx (by kernel_rfl) (good_op (len_d (e := 126) (by kernel_rfl)) good_nil) ?_
  refine aw_block ?_
  refine aw_loop (fun μ σ => ∃ (v8 : Int) (v9 : (List Str)), μ ≤ n ∧ disk_settle_L1 μ sure writes x1 v8 v9 = some r ∧ Wk B σ (st Tryz.f155.ntmps [(0, (.msl 0 x1.length)), (9, (.d ((eL eWrite) writes))), (10, (.d (eI64 (writes.length : Int)))), (11, (.d (eI64 v8)))] [(.row (v9.map eS) 1)] [])) n ⟨(0 : Int), x1, Nat.le_refl _, hg, (Wk.refl _)⟩ ?_
  rintro μ σ ⟨v8, v9, hle, hg, hwk⟩
  refine aw_wk hwk ?_
  clear hwk
  cases μ with
  | zero => exact absurd (show none = some r from hg) (by simp)
  | succ n =>
    refine aw_seq ?_
    refine rg (Z := Zt) 0 0 [] [] [(0, (.msl 0 x1.length)), (9, (.d ((eL eWrite) writes))), (10, (.d (eI64 (writes.length : Int)))), (11, (.d (eI64 v8))), (12, (.d (eB (decide (v8 < (writes.length : Int))))))] [(.row (v9.map eS) 1)] [] hmx (by kernel_rfl) good_nil ?_
    refine aw_seq ?_
    rcases Bool.eq_false_or_eq_true (decide (v8 < (writes.length : Int))) with h15 | h15
    · have hg := ite_t hg h15
      refine cd_t h15 (by kernel_rfl) ?_
      refine aw_skip ?_
      refine aw_seq ?_
      refine aw_block ?_
      refine aw_seq ?_
      obtain ⟨h16, hg⟩ := chk_o hg
      refine rg (Z := Zt) 1 0 [(0, .op (.val (.kp (eWrite (gt writes v8)))))] [.op (xIdA Pg 26 (.d ((eL eWrite) writes)) (.d (eI64 v8)))] [(0, (.msl 0 x1.length)), (6, (.ptr 1 0)), (9, (.d ((eL eWrite) writes))), (10, (.d (eI64 (writes.length : Int)))), (11, (.d (eI64 v8)))] [(.row (v9.map eS) 1), (.var (.d (eWrite (gt writes v8))))] [] hmx (by kernel_rfl) (good_op (idx_d (s := 2) (b := true) (by_ := 24) (by kernel_rfl) (fun _ => rfl) h16) good_nil) ?_
      obtain ⟨h17, hg⟩ := chk_o hg
      obtain ⟨h18, hg⟩ := chk_o hg
      refine rg (Z := Zt) 0 0 [(5, .op (.val (.eptr 0 ((gt writes v8).sector).toNat 1))), (6, .op (.box 0 (.row ((v9.set ((gt writes v8).sector).toNat ((gt writes v8).data)).map eS) 1) .any))] [.op (xIdA Pg 25 (.msl 0 x1.length) (.d (eI64 (gt writes v8).sector))), .op (evStore Pg 9 (.eptr 0 ((gt writes v8).sector).toNat 1) (.d (eS (gt writes v8).data)) [(.row (v9.map eS) 1), (.var (.d (eWrite (gt writes v8))))])] [(0, (.msl 0 x1.length)), (9, (.d ((eL eWrite) writes))), (10, (.d (eI64 (writes.length : Int)))), (11, (.d (eI64 v8)))] [(.row ((v9.set ((gt writes v8).sector).toNat ((gt writes v8).data)).map eS) 1), (.var (.d (eWrite (gt writes v8))))] [] hmx (by kernel_rfl) (good_op (idx_msl (s := 1) (b := false) (by_ := 16) (by kernel_rfl) h17) (good_op (st_row (x := (gt writes v8).data) (s := 1) (b := false) (by kernel_rfl) (fun _ => rfl) rfl rfl rfl h18) good_nil)) ?_
      refine rg (Z := Zt) 0 0 [] [] [(0, (.msl 0 x1.length)), (9, (.d ((eL eWrite) writes))), (10, (.d (eI64 (writes.length : Int)))), (11, (.d (eI64 (wI64 (v8 + (1 : Int))))))] [(.row ((v9.set ((gt writes v8).sector).toNat ((gt writes v8).data)).map eS) 1), (.var (.d (eWrite (gt writes v8))))] [] hmx (by kernel_rfl) good_nil ?_
      exact ⟨n, by omega, (wI64 (v8 + (1 : Int))), (v9.set ((gt writes v8).sector).toNat ((gt writes v8).data)), by omega, hg, (wk_cut (l := [(0, (.msl 0 x1.length)), (9, (.d ((eL eWrite) writes))), (10, (.d (eI64 (writes.length : Int)))), (11, (.d (eI64 (wI64 (v8 + (1 : Int))))))]) (h := [(.row ((v9.set ((gt writes v8).sector).toNat ((gt writes v8).data)).map eS) 1)]) (k := []) hB 1 0 (by kernel_rfl) (by kernel_rfl))⟩
    · have hg := ite_f hg h15
      refine cd_f h15 (by kernel_rfl) ?_
      refine aw_exit ?_
      refine aw_seq ?_
      refine rg (Z := Zt) 0 0 [] [] [(4, (.msl 0 x1.length))] [(.row (v9.map eS) 1)] [] hmx (by kernel_rfl) good_nil ?_
      obtain ⟨h19, hg⟩ := chk_o hg
      refine aw_wk (wk_frz (l1 := [(4, (.d ((eL eS) v9)))]) (h := [(.fz (.agg (v9.map eS)))]) 4 0 1 x1.length (v9.map eS) (by rw [List.length_map]; exact of_decide_eq_true h19) (by kernel_rfl)) ?_
      refine aw_ret ?_
      have hg := some_o hg
      subst hg
      exact lv_r [true] [] (by kernel_rfl)

/- disk.Flush -/
def disk_Flush (n : Nat) (d : Disk) : Option (Disk × Int) :=
  (bif d.dead then (some (d, (6 : Int))) else (Let (disk_burn d) fun x2 => (bif (x2.1 != (0 : Int)) then (some (x2.2, x2.1)) else (Bnd (disk_settle n x2.2.sure x2.2.cache) fun x5 => (some ((Disk.mk x5 ([] : (List Write)) x2.2.fuse x2.2.dead), (0 : Int)))))))
theorem t_disk_Flush {n : Nat} {d : Disk} {r : (Disk × Int)} (hg : disk_Flush n d = some r) : VF Pg 139 [(.d (eDisk d))] (single [(.d (eDisk r.1)), (.d (eI64 r.2))]) := by
  refine fn_ok (fn := Tryz.f139) (by kernel_rfl) rfl (by kernel_rfl) (Nat.le_of_ble_eq_true (by kernel_rfl)) fun B hB => ?_
  refine aw_seq ?_
  refine rg (Z := Zt) 2 0 [] [] [(1, (.ptr 0 0)), (2, (.ptr 1 0))] [(.var (.d (eDisk d))), (.var (.agg [(.full (([] : (List Str)).map eS)), (.full (([] : (List Write)).map eWrite)), (.d (eI64 (0 : Int))), (.d (eB false))]))] [] hmx (by kernel_rfl) good_nil ?_
  refine aw_seq ?_
  refine aw_seq ?_
  refine rg (Z := Zt) 0 0 [] [] [(1, (.ptr 0 0)), (2, (.ptr 1 0)), (6, (.d (eB d.dead)))] [(.var (.d (eDisk d))), (.var (.agg [(.full (([] : (List Str)).map eS)), (.full (([] : (List Write)).map eWrite)), (.d (eI64 (0 : Int))), (.d (eB false))]))] [] hmx (by kernel_rfl) good_nil ?_
  rcases Bool.eq_false_or_eq_true d.dead with h1 | h1
  · have hg := ite_t hg h1
    refine cd_t h1 (by kernel_rfl) ?_
    refine aw_seq ?_
    refine rg (Z := Zt) 0 0 [] [] [(2, (.ptr 1 0)), (3, (.d (eI64 (6 : Int))))] [(.var (.d (eDisk d))), (.var (.d (eDisk d)))] [] hmx (by kernel_rfl) good_nil ?_
    refine aw_ret ?_
    have hg := some_o hg
    subst hg
    exact lv_r [true, true] [] (by kernel_rfl)
  · have hg := ite_f hg h1
    refine cd_f h1 (by kernel_rfl) ?_
    refine aw_skip ?_
    refine aw_seq ?_
    refine aw_seq ?_
    obtain ⟨x2, h3, hg⟩ := let_o hg
    refine rg (Z := Zt) 0 0 [(0, .call (.d (eI64 x2.1)) [0] [(.var (.d (eDisk d)))] [(.var (.d (eDisk x2.2)))] [] [] [])] [.call 204 [(.ptr 0 0)] [(some (.var (.d (eDisk d))))] []] [(1, (.ptr 0 0)), (2, (.ptr 1 0)), (4, (.d (eI64 x2.1)))] [(.var (.d (eDisk x2.2))), (.var (.agg [(.full (([] : (List Str)).map eS)), (.full (([] : (List Write)).map eWrite)), (.d (eI64 (0 : Int))), (.d (eB false))]))] [] hmx (by kernel_rfl) (good_call rfl rfl (callL (argsR := [(.ptr 0 0)]) (ER := [(.var (.d (eDisk d)))]) (t_disk_burn h3) [0] [] [] (by kernel_rfl) (by kernel_rfl) (by kernel_rfl) (by kernel_rfl)) good_nil) ?_
    refine aw_seq ?_
    refine rg (Z := Zt) 0 0 [] [] [(1, (.ptr 0 0)), (2, (.ptr 1 0)), (4, (.d (eI64 x2.1))), (10, (.d (eB (x2.1 != (0 : Int)))))] [(.var (.d (eDisk x2.2))), (.var (.agg [(.full (([] : (List Str)).map eS)), (.full (([] : (List Write)).map eWrite)), (.d (eI64 (0 : Int))), (.d (eB false))]))] [] hmx (by kernel_rfl) good_nil ?_
    rcases Bool.eq_false_or_eq_true (x2.1 != (0 : Int)) with h4 | h4
    · have hg := ite_t hg h4
      refine cd_t h4 (by kernel_rfl) ?_
      refine aw_seq ?_
      refine rg (Z := Zt) 0 0 [] [] [(2, (.ptr 1 0)), (3, (.d (eI64 x2.1)))] [(.var (.d (eDisk x2.2))), (.var (.d (eDisk x2.2)))] [] hmx (by kernel_rfl) good_nil ?_
      refine aw_ret ?_
      have hg := some_o hg
      subst hg
      exact lv_r [true, true] [] (by kernel_rfl)
    · have hg := ite_f hg h4
      refine cd_f h4 (by kernel_rfl) ?_
      refine aw_skip ?_
      refine aw_seq ?_
      obtain ⟨x5, h6, hg⟩ := bnd_o hg
      refine rg (Z := Zt) 0 0 [(4, .vf (.d ((eL eS) x5)))] [.vf 155 [(.d ((eL eS) x2.2.sure)), (.d ((eL eWrite) x2.2.cache))]] [(1, (.ptr 0 0)), (2, (.ptr 1 0))] [(.var (.d (eDisk (Disk.mk x5 ([] : (List Write)) x2.2.fuse x2.2.dead)))), (.var (.agg [(.full (([] : (List Str)).map eS)), (.full (([] : (List Write)).map eWrite)), (.d (eI64 (0 : Int))), (.d (eB false))]))] [] hmx (by kernel_rfl) (good_vf (t_disk_settle h6) rfl rfl good_nil) ?_
      refine aw_seq ?_
      refine rg (Z := Zt) 0 0 [] [] [(2, (.ptr 1 0)), (3, (.d (eI64 (0 : Int))))] [(.var (.d (eDisk (Disk.mk x5 ([] : (List Write)) x2.2.fuse x2.2.dead)))), (.var (.d (eDisk (Disk.mk x5 ([] : (List Write)) x2.2.fuse x2.2.dead))))] [] hmx (by kernel_rfl) good_nil ?_
      refine aw_ret ?_
      have hg := some_o hg
      subst hg
      exact lv_r [true, true] [] (by kernel_rfl)

/- bits.Save -/
def bits_Save (n : Nat) (d : Disk) (m : Int) : Option (Disk × Int) :=
  (Bnd (bits_Note n d m) fun x1 => (bif (x1.2 != (0 : Int)) then (some (x1.1, x1.2)) else (Bnd (disk_Flush n x1.1) fun x4 => (some (x4.1, x4.2)))))
theorem t_bits_Save {n : Nat} {d : Disk} {m : Int} {r : (Disk × Int)} (hg : bits_Save n d m = some r) : VF Pg 74 [(.d (eDisk d)), (.d (eU32 m))] (single [(.d (eDisk r.1)), (.d (eI64 r.2))]) := by
  refine fn_ok (fn := Tryz.f74) (by kernel_rfl) rfl (by kernel_rfl) (Nat.le_of_ble_eq_true (by kernel_rfl)) fun B hB => ?_
  refine aw_seq ?_
  refine rg (Z := Zt) 2 0 [] [] [(1, (.d (eU32 m))), (2, (.ptr 0 0)), (4, (.ptr 1 0))] [(.var (.d (eDisk d))), (.var (.agg [(.full (([] : (List Str)).map eS)), (.full (([] : (List Write)).map eWrite)), (.d (eI64 (0 : Int))), (.d (eB false))]))] [] hmx (by kernel_rfl) good_nil ?_
  refine aw_seq ?_
  obtain ⟨x1, h2, hg⟩ := bnd_o hg
  refine rg (Z := Zt) 0 0 [(2, .vf (.tup [(.d (eDisk x1.1)), (.d (eI64 x1.2))]))] [.vf 76 [(.d (eDisk d)), (.d (eU32 m))]] [(2, (.ptr 0 0)), (4, (.ptr 1 0)), (6, (.d (eI64 x1.2)))] [(.var (.d (eDisk x1.1))), (.var (.agg [(.full (([] : (List Str)).map eS)), (.full (([] : (List Write)).map eWrite)), (.d (eI64 (0 : Int))), (.d (eB false))]))] [] hmx (by kernel_rfl) (good_vf (t_bits_Note h2) rfl rfl good_nil) ?_
  refine aw_seq ?_
  refine aw_seq ?_
  refine rg (Z := Zt) 0 0 [] [] [(2, (.ptr 0 0)), (4, (.ptr 1 0)), (6, (.d (eI64 x1.2))), (14, (.d (eB (x1.2 != (0 : Int)))))] [(.var (.d (eDisk x1.1))), (.var (.agg [(.full (([] : (List Str)).map eS)), (.full (([] : (List Write)).map eWrite)), (.d (eI64 (0 : Int))), (.d (eB false))]))] [] hmx (by kernel_rfl) good_nil ?_
  rcases Bool.eq_false_or_eq_true (x1.2 != (0 : Int)) with h3 | h3
  · have hg := ite_t hg h3
    refine cd_t h3 (by kernel_rfl) ?_
    refine aw_seq ?_
    refine rg (Z := Zt) 0 0 [] [] [(4, (.ptr 1 0)), (5, (.d (eI64 x1.2)))] [(.var (.d (eDisk x1.1))), (.var (.d (eDisk x1.1)))] [] hmx (by kernel_rfl) good_nil ?_
    refine aw_ret ?_
    have hg := some_o hg
    subst hg
    exact lv_r [true, true] [] (by kernel_rfl)
  · have hg := ite_f hg h3
    refine cd_f h3 (by kernel_rfl) ?_
    refine aw_skip ?_
    refine aw_seq ?_
    obtain ⟨x4, h5, hg⟩ := bnd_o hg
    refine rg (Z := Zt) 0 0 [(1, .vf (.tup [(.d (eDisk x4.1)), (.d (eI64 x4.2))]))] [.vf 139 [(.d (eDisk x1.1))]] [(4, (.ptr 1 0)), (5, (.d (eI64 x4.2)))] [(.var (.d (eDisk x1.1))), (.var (.d (eDisk x4.1)))] [] hmx (by kernel_rfl) (good_vf (t_disk_Flush h5) rfl rfl good_nil) ?_
    refine aw_ret ?_
    have hg := some_o hg
    subst hg
    exact lv_r [true, true] [] (by kernel_rfl)

/- store.keep -/
def store_keep_74 (n : Nat) (s : Store) (m : Int) : Option (Store × Int) :=
  (bif (m == s.mask) then (some (s, (0 : Int))) else (Bnd (bits_Save n s.disk m) fun x2 => (bif (x2.2 == (0 : Int)) then (some ((Store.mk x2.1 s.super m), x2.2)) else (some ((Store.mk x2.1 s.super s.mask), x2.2)))))
theorem t_store_keep_74 {n : Nat} {s : Store} {m : Int} {r : (Store × Int)} (hg : store_keep_74 n s m = some r) : VF Pg 72 [(.d (eStore s)), (.d (eU32 m)), (.fn 74 [])] (single [(.d (eStore r.1)), (.d (eI64 r.2))]) := by
  refine fn_ok (fn := Tryz.f72) (by kernel_rfl) rfl (by kernel_rfl) (Nat.le_of_ble_eq_true (by kernel_rfl)) fun B hB => ?_
  refine aw_seq ?_
  refine rg (Z := Zt) 2 0 [] [] [(1, (.d (eU32 m))), (2, (.fn 74 [])), (3, (.ptr 0 0)), (6, (.ptr 1 0))] [(.var (.d (eStore s))), (.var (.agg [(.agg [(.full (([] : (List Str)).map eS)), (.full (([] : (List Write)).map eWrite)), (.d (eI64 (0 : Int))), (.d (eB false))]), (.agg [(.d (eI64 (0 : Int))), (.agg [(.d (eU64 (0 : Int))), (.d (eU64 (0 : Int))), (.agg [(.d (eU64 (0 : Int))), (.d (eU64 (0 : Int)))])]), (.d (eB false)), (.d (eB false)), (.d (eB false))]), (.d (eU32 (0 : Int)))]))] [] hmx (by kernel_rfl) good_nil ?_
  refine aw_seq ?_
  refine aw_seq ?_
  refine rg (Z := Zt) 0 0 [] [] [(1, (.d (eU32 m))), (2, (.fn 74 [])), (3, (.ptr 0 0)), (6, (.ptr 1 0)), (11, (.d (eB (m == s.mask))))] [(.var (.d (eStore s))), (.var (.agg [(.agg [(.full (([] : (List Str)).map eS)), (.full (([] : (List Write)).map eWrite)), (.d (eI64 (0 : Int))), (.d (eB false))]), (.agg [(.d (eI64 (0 : Int))), (.agg [(.d (eU64 (0 : Int))), (.d (eU64 (0 : Int))), (.agg [(.d (eU64 (0 : Int))), (.d (eU64 (0 : Int)))])]), (.d (eB false)), (.d (eB false)), (.d (eB false))]), (.d (eU32 (0 : Int)))]))] [] hmx (by kernel_rfl) good_nil ?_
  rcases Bool.eq_false_or_eq_true (m == s.mask) with h1 | h1
  · have hg := ite_t hg h1
    refine cd_t h1 (by kernel_rfl) ?_
    refine aw_seq ?_
    refine rg (Z := Zt) 0 0 [] [] [(6, (.ptr 1 0)), (7, (.d (eI64 (0 : Int))))] [(.var (.d (eStore s))), (.var (.d (eStore s)))] [] hmx (by kernel_rfl) good_nil ?_
    refine aw_ret ?_
    have hg := some_o hg
    subst hg
    exact lv_r [true, true] [] (by kernel_rfl)
  · have hg := ite_f hg h1
    refine cd_f h1 (by kernel_rfl) ?_
    refine aw_skip ?_
    refine aw_seq ?_
    refine aw_seq ?_
    obtain ⟨x2, h3, hg⟩ := bnd_o hg
    refine rg (Z := Zt) 0 0 [(4, .vf (.tup [(.d (eDisk x2.1)), (.d (eI64 x2.2))]))] [.vf 74 [(.d (eDisk s.disk)), (.d (eU32 m))]] [(1, (.d (eU32 m))), (3, (.ptr 0 0)), (6, (.ptr 1 0)), (7, (.d (eI64 x2.2)))] [(.var (.d (eStore (Store.mk x2.1 s.super s.mask)))), (.var (.agg [(.agg [(.full (([] : (List Str)).map eS)), (.full (([] : (List Write)).map eWrite)), (.d (eI64 (0 : Int))), (.d (eB false))]), (.agg [(.d (eI64 (0 : Int))), (.agg [(.d (eU64 (0 : Int))), (.d (eU64 (0 : Int))), (.agg [(.d (eU64 (0 : Int))), (.d (eU64 (0 : Int)))])]), (.d (eB false)), (.d (eB false)), (.d (eB false))]), (.d (eU32 (0 : Int)))]))] [] hmx (by kernel_rfl) (good_vf (t_bits_Save h3) rfl rfl good_nil) ?_
    refine aw_seq ?_
    refine rg (Z := Zt) 0 0 [] [] [(1, (.d (eU32 m))), (3, (.ptr 0 0)), (6, (.ptr 1 0)), (7, (.d (eI64 x2.2))), (23, (.d (eB (x2.2 == (0 : Int)))))] [(.var (.d (eStore (Store.mk x2.1 s.super s.mask)))), (.var (.agg [(.agg [(.full (([] : (List Str)).map eS)), (.full (([] : (List Write)).map eWrite)), (.d (eI64 (0 : Int))), (.d (eB false))]), (.agg [(.d (eI64 (0 : Int))), (.agg [(.d (eU64 (0 : Int))), (.d (eU64 (0 : Int))), (.agg [(.d (eU64 (0 : Int))), (.d (eU64 (0 : Int)))])]), (.d (eB false)), (.d (eB false)), (.d (eB false))]), (.d (eU32 (0 : Int)))]))] [] hmx (by kernel_rfl) good_nil ?_
    rcases Bool.eq_false_or_eq_true (x2.2 == (0 : Int)) with h4 | h4
    · have hg := ite_t hg h4
      refine cd_t h4 (by kernel_rfl) ?_
      refine rg (Z := Zt) 0 0 [] [] [(3, (.ptr 0 0)), (6, (.ptr 1 0)), (7, (.d (eI64 x2.2)))] [(.var (.d (eStore (Store.mk x2.1 s.super m)))), (.var (.agg [(.agg [(.full (([] : (List Str)).map eS)), (.full (([] : (List Write)).map eWrite)), (.d (eI64 (0 : Int))), (.d (eB false))]), (.agg [(.d (eI64 (0 : Int))), (.agg [(.d (eU64 (0 : Int))), (.d (eU64 (0 : Int))), (.agg [(.d (eU64 (0 : Int))), (.d (eU64 (0 : Int)))])]), (.d (eB false)), (.d (eB false)), (.d (eB false))]), (.d (eU32 (0 : Int)))]))] [] hmx (by kernel_rfl) good_nil ?_
      refine aw_seq ?_
      refine rg (Z := Zt) 0 0 [] [] [(6, (.ptr 1 0)), (7, (.d (eI64 x2.2)))] [(.var (.d (eStore (Store.mk x2.1 s.super m)))), (.var (.d (eStore (Store.mk x2.1 s.super m))))] [] hmx (by kernel_rfl) good_nil ?_
      refine aw_ret ?_
      have hg := some_o hg
      subst hg
      exact lv_r [true, true] [] (by kernel_rfl)
    · have hg := ite_f hg h4
      refine cd_f h4 (by kernel_rfl) ?_
      refine aw_skip ?_
      refine aw_seq ?_
      refine rg (Z := Zt) 0 0 [] [] [(6, (.ptr 1 0)), (7, (.d (eI64 x2.2)))] [(.var (.d (eStore (Store.mk x2.1 s.super s.mask)))), (.var (.d (eStore (Store.mk x2.1 s.super s.mask))))] [] hmx (by kernel_rfl) good_nil ?_
      refine aw_ret ?_
      have hg := some_o hg
      subst hg
      exact lv_r [true, true] [] (by kernel_rfl)

/- store.Mark -/
def store_Mark (n : Nat) (s : Store) (i : Int) : Option (Store × Int) :=
  (Let (store_there s i) fun x1 => (bif (!x1) then (some (s, (4 : Int))) else (Bnd (mask_Set n s.mask ([i] : (List Int))) fun x4 => (Bnd (store_keep_74 n s x4) fun x6 => (some (x6.1, x6.2))))))
theorem t_store_Mark {n : Nat} {s : Store} {i : Int} {r : (Store × Int)} (hg : store_Mark n s i = some r) : VF Pg 19 [(.d (eStore s)), (.d (eI64 i))] (single [(.d (eStore r.1)), (.d (eI64 r.2))]) := by
  refine fn_ok (fn := Tryz.f19) (by kernel_rfl) rfl (by kernel_rfl) (Nat.le_of_ble_eq_true (by kernel_rfl)) fun B hB => ?_
  refine aw_seq ?_
  refine rg (Z := Zt) 2 0 [] [] [(1, (.d (eI64 i))), (2, (.ptr 0 0)), (4, (.ptr 1 0))] [(.var (.d (eStore s))), (.var (.agg [(.agg [(.full (([] : (List Str)).map eS)), (.full (([] : (List Write)).map eWrite)), (.d (eI64 (0 : Int))), (.d (eB false))]), (.agg [(.d (eI64 (0 : Int))), (.agg [(.d (eU64 (0 : Int))), (.d (eU64 (0 : Int))), (.agg [(.d (eU64 (0 : Int))), (.d (eU64 (0 : Int)))])]), (.d (eB false)), (.d (eB false)), (.d (eB false))]), (.d (eU32 (0 : Int)))]))] [] hmx (by kernel_rfl) good_nil ?_
  refine aw_seq ?_
  refine aw_seq ?_
  obtain ⟨x1, h2, hg⟩ := let_o hg
  refine rg (Z := Zt) 0 0 [(2, .vf (.d (eB x1)))] [.vf 71 [(.d (eStore s)), (.d (eI64 i))]] [(1, (.d (eI64 i))), (2, (.ptr 0 0)), (4, (.ptr 1 0)), (9, (.d (eB (!x1))))] [(.var (.d (eStore s))), (.var (.agg [(.agg [(.full (([] : (List Str)).map eS)), (.full (([] : (List Write)).map eWrite)), (.d (eI64 (0 : Int))), (.d (eB false))]), (.agg [(.d (eI64 (0 : Int))), (.agg [(.d (eU64 (0 : Int))), (.d (eU64 (0 : Int))), (.agg [(.d (eU64 (0 : Int))), (.d (eU64 (0 : Int)))])]), (.d (eB false)), (.d (eB false)), (.d (eB false))]), (.d (eU32 (0 : Int)))]))] [] hmx (by kernel_rfl) (good_vf (t_store_there h2) rfl rfl good_nil) ?_
  rcases Bool.eq_false_or_eq_true (!x1) with h3 | h3
  · have hg := ite_t hg h3
    refine cd_t h3 (by kernel_rfl) ?_
    refine aw_seq ?_
    refine rg (Z := Zt) 0 0 [] [] [(4, (.ptr 1 0)), (5, (.d (eI64 (4 : Int))))] [(.var (.d (eStore s))), (.var (.d (eStore s)))] [] hmx (by kernel_rfl) good_nil ?_
    refine aw_ret ?_
    have hg := some_o hg
    subst hg
    exact lv_r [true, true] [] (by kernel_rfl)
  · have hg := ite_f hg h3
    refine cd_f h3 (by kernel_rfl) ?_
    refine aw_skip ?_
    refine aw_seq ?_
    obtain ⟨x4, h5, hg⟩ := bnd_o hg
    obtain ⟨x6, h7, hg⟩ := bnd_o hg
    refine rg (Z := Zt) 0 0 [(5, .vf (.d (eU32 x4))), (6, .vf (.tup [(.d (eStore x6.1)), (.d (eI64 x6.2))]))] [.vf 73 [(.d (eU32 s.mask)), (.d ((eL eI64) ([i] : (List Int))))], .vf 72 [(.d (eStore s)), (.d (eU32 x4)), (.fn 74 [])]] [(4, (.ptr 1 0)), (5, (.d (eI64 x6.2)))] [(.var (.d (eStore s))), (.var (.d (eStore x6.1)))] [] hmx (by kernel_rfl) (good_vf (t_mask_Set h5) rfl rfl (good_vf (t_store_keep_74 h7) rfl rfl good_nil)) ?_
    refine aw_ret ?_
    have hg := some_o hg
    subst hg
    exact lv_r [true, true] [] (by kernel_rfl)

/- mask.Clear -/
def mask_Clear (n : Nat) (m : Int) (l : (List Int)) : Option Int :=
  (Bnd (mask_of n l) fun x1 => (some (andnotU32 m x1)))
theorem t_mask_Clear {n : Nat} {m : Int} {l : (List Int)} {r : Int} (hg : mask_Clear n m l = some r) : VF Pg 75 [(.d (eU32 m)), (.d ((eL eI64) l))] (single [(.d (eU32 r))]) := by
  refine fn_ok (fn := Tryz.f75) (by kernel_rfl) rfl (by kernel_rfl) (Nat.le_of_ble_eq_true (by kernel_rfl)) fun B hB => ?_
  refine aw_seq ?_
  refine rg (Z := Zt) 0 0 [] [] [(0, (.d (eU32 m))), (1, (.d ((eL eI64) l)))] [] [] hmx (by kernel_rfl) good_nil ?_
  refine aw_seq ?_
  obtain ⟨x1, h2, hg⟩ := bnd_o hg
  refine rg (Z := Zt) 0 0 [(2, .vf (.d (eU32 x1)))] [.vf 138 [(.d ((eL eI64) l))]] [(4, (.d (eU32 (andnotU32 m x1))))] [] [] hmx (by kernel_rfl) (good_vf (t_mask_of h2) rfl rfl good_nil) ?_
  refine aw_ret ?_
  have hg := some_o hg
  subst hg
  exact lv_r [true] [] (by kernel_rfl)

/- store.keep -/
def store_keep_76 (n : Nat) (s : Store) (m : Int) : Option (Store × Int) :=
  (bif (m == s.mask) then (some (s, (0 : Int))) else (Bnd (bits_Note n s.disk m) fun x2 => (bif (x2.2 == (0 : Int)) then (some ((Store.mk x2.1 s.super m), x2.2)) else (some ((Store.mk x2.1 s.super s.mask), x2.2)))))
theorem t_store_keep_76 {n : Nat} {s : Store} {m : Int} {r : (Store × Int)} (hg : store_keep_76 n s m = some r) : VF Pg 72 [(.d (eStore s)), (.d (eU32 m)), (.fn 76 [])] (single [(.d (eStore r.1)), (.d (eI64 r.2))]) := by
  refine fn_ok (fn := Tryz.f72) (by kernel_rfl) rfl (by kernel_rfl) (Nat.le_of_ble_eq_true (by kernel_rfl)) fun B hB => ?_
  refine aw_seq ?_
  refine rg (Z := Zt) 2 0 [] [] [(1, (.d (eU32 m))), (2, (.fn 76 [])), (3, (.ptr 0 0)), (6, (.ptr 1 0))] [(.var (.d (eStore s))), (.var (.agg [(.agg [(.full (([] : (List Str)).map eS)), (.full (([] : (List Write)).map eWrite)), (.d (eI64 (0 : Int))), (.d (eB false))]), (.agg [(.d (eI64 (0 : Int))), (.agg [(.d (eU64 (0 : Int))), (.d (eU64 (0 : Int))), (.agg [(.d (eU64 (0 : Int))), (.d (eU64 (0 : Int)))])]), (.d (eB false)), (.d (eB false)), (.d (eB false))]), (.d (eU32 (0 : Int)))]))] [] hmx (by kernel_rfl) good_nil ?_
  refine aw_seq ?_
  refine aw_seq ?_
  refine rg (Z := Zt) 0 0 [] [] [(1, (.d (eU32 m))), (2, (.fn 76 [])), (3, (.ptr 0 0)), (6, (.ptr 1 0)), (11, (.d (eB (m == s.mask))))] [(.var (.d (eStore s))), (.var (.agg [(.agg [(.full (([] : (List Str)).map eS)), (.full (([] : (List Write)).map eWrite)), (.d (eI64 (0 : Int))), (.d (eB false))]), (.agg [(.d (eI64 (0 : Int))), (.agg [(.d (eU64 (0 : Int))), (.d (eU64 (0 : Int))), (.agg [(.d (eU64 (0 : Int))), (.d (eU64 (0 : Int)))])]), (.d (eB false)), (.d (eB false)), (.d (eB false))]), (.d (eU32 (0 : Int)))]))] [] hmx (by kernel_rfl) good_nil ?_
  rcases Bool.eq_false_or_eq_true (m == s.mask) with h1 | h1
  · have hg := ite_t hg h1
    refine cd_t h1 (by kernel_rfl) ?_
    refine aw_seq ?_
    refine rg (Z := Zt) 0 0 [] [] [(6, (.ptr 1 0)), (7, (.d (eI64 (0 : Int))))] [(.var (.d (eStore s))), (.var (.d (eStore s)))] [] hmx (by kernel_rfl) good_nil ?_
    refine aw_ret ?_
    have hg := some_o hg
    subst hg
    exact lv_r [true, true] [] (by kernel_rfl)
  · have hg := ite_f hg h1
    refine cd_f h1 (by kernel_rfl) ?_
    refine aw_skip ?_
    refine aw_seq ?_
    refine aw_seq ?_
    obtain ⟨x2, h3, hg⟩ := bnd_o hg
    refine rg (Z := Zt) 0 0 [(4, .vf (.tup [(.d (eDisk x2.1)), (.d (eI64 x2.2))]))] [.vf 76 [(.d (eDisk s.disk)), (.d (eU32 m))]] [(1, (.d (eU32 m))), (3, (.ptr 0 0)), (6, (.ptr 1 0)), (7, (.d (eI64 x2.2)))] [(.var (.d (eStore (Store.mk x2.1 s.super s.mask)))), (.var (.agg [(.agg [(.full (([] : (List Str)).map eS)), (.full (([] : (List Write)).map eWrite)), (.d (eI64 (0 : Int))), (.d (eB false))]), (.agg [(.d (eI64 (0 : Int))), (.agg [(.d (eU64 (0 : Int))), (.d (eU64 (0 : Int))), (.agg [(.d (eU64 (0 : Int))), (.d (eU64 (0 : Int)))])]), (.d (eB false)), (.d (eB false)), (.d (eB false))]), (.d (eU32 (0 : Int)))]))] [] hmx (by kernel_rfl) (good_vf (t_bits_Note h3) rfl rfl good_nil) ?_
    refine aw_seq ?_
    refine rg (Z := Zt) 0 0 [] [] [(1, (.d (eU32 m))), (3, (.ptr 0 0)), (6, (.ptr 1 0)), (7, (.d (eI64 x2.2))), (23, (.d (eB (x2.2 == (0 : Int)))))] [(.var (.d (eStore (Store.mk x2.1 s.super s.mask)))), (.var (.agg [(.agg [(.full (([] : (List Str)).map eS)), (.full (([] : (List Write)).map eWrite)), (.d (eI64 (0 : Int))), (.d (eB false))]), (.agg [(.d (eI64 (0 : Int))), (.agg [(.d (eU64 (0 : Int))), (.d (eU64 (0 : Int))), (.agg [(.d (eU64 (0 : Int))), (.d (eU64 (0 : Int)))])]), (.d (eB false)), (.d (eB false)), (.d (eB false))]), (.d (eU32 (0 : Int)))]))] [] hmx (by kernel_rfl) good_nil ?_
    rcases Bool.eq_false_or_eq_true (x2.2 == (0 : Int)) with h4 | h4
    · have hg := ite_t hg h4
      refine cd_t h4 (by kernel_rfl) ?_
      refine rg (Z := Zt) 0 0 [] [] [(3, (.ptr 0 0)), (6, (.ptr 1 0)), (7, (.d (eI64 x2.2)))] [(.var (.d (eStore (Store.mk x2.1 s.super m)))), (.var (.agg [(.agg [(.full (([] : (List Str)).map eS)), (.full (([] : (List Write)).map eWrite)), (.d (eI64 (0 : Int))), (.d (eB false))]), (.agg [(.d (eI64 (0 : Int))), (.agg [(.d (eU64 (0 : Int))), (.d (eU64 (0 : Int))), (.agg [(.d (eU64 (0 : Int))), (.d (eU64 (0 : Int)))])]), (.d (eB false)), (.d (eB false)), (.d (eB false))]), (.d (eU32 (0 : Int)))]))] [] hmx (by kernel_rfl) good_nil ?_
      refine aw_seq ?_
      refine rg (Z := Zt) 0 0 [] [] [(6, (.ptr 1 0)), (7, (.d (eI64 x2.2)))] [(.var (.d (eStore (Store.mk x2.1 s.super m)))), (.var (.d (eStore (Store.mk x2.1 s.super m))))] [] hmx (by kernel_rfl) good_nil ?_
      refine aw_ret ?_
      have hg := some_o hg
      subst hg
      exact lv_r [true, true] [] (by kernel_rfl)
    · have hg := ite_f hg h4
      refine cd_f h4 (by kernel_rfl) ?_
      refine aw_skip ?_
      refine aw_seq ?_
      refine rg (Z := Zt) 0 0 [] [] [(6, (.ptr 1 0)), (7, (.d (eI64 x2.2)))] [(.var (.d (eStore (Store.mk x2.1 s.super s.mask)))), (.var (.d (eStore (Store.mk x2.1 s.super s.mask))))] [] hmx (by kernel_rfl) good_nil ?_
      refine aw_ret ?_
      have hg := some_o hg
      subst hg
      exact lv_r [true, true] [] (by kernel_rfl)

/- store.Wipe -/
def store_Wipe (n : Nat) (s : Store) (i : Int) : Option (Store × Int) :=
  (Let (store_there s i) fun x1 => (bif (!x1) then (some (s, (4 : Int))) else (Bnd (mask_Clear n s.mask ([i] : (List Int))) fun x4 => (Bnd (store_keep_76 n s x4) fun x6 => (some (x6.1, x6.2))))))
theorem t_store_Wipe {n : Nat} {s : Store} {i : Int} {r : (Store × Int)} (hg : store_Wipe n s i = some r) : VF Pg 20 [(.d (eStore s)), (.d (eI64 i))] (single [(.d (eStore r.1)), (.d (eI64 r.2))]) := by
  refine fn_ok (fn := Tryz.f20) (by kernel_rfl) rfl (by kernel_rfl) (Nat.le_of_ble_eq_true (by kernel_rfl)) fun B hB => ?_
  refine aw_seq ?_
  refine rg (Z := Zt) 2 0 [] [] [(1, (.d (eI64 i))), (2, (.ptr 0 0)), (4, (.ptr 1 0))] [(.var (.d (eStore s))), (.var (.agg [(.agg [(.full (([] : (List Str)).map eS)), (.full (([] : (List Write)).map eWrite)), (.d (eI64 (0 : Int))), (.d (eB false))]), (.agg [(.d (eI64 (0 : Int))), (.agg [(.d (eU64 (0 : Int))), (.d (eU64 (0 : Int))), (.agg [(.d (eU64 (0 : Int))), (.d (eU64 (0 : Int)))])]), (.d (eB false)), (.d (eB false)), (.d (eB false))]), (.d (eU32 (0 : Int)))]))] [] hmx (by kernel_rfl) good_nil ?_
  refine aw_seq ?_
  refine aw_seq ?_
  obtain ⟨x1, h2, hg⟩ := let_o hg
  refine rg (Z := Zt) 0 0 [(2, .vf (.d (eB x1)))] [.vf 71 [(.d (eStore s)), (.d (eI64 i))]] [(1, (.d (eI64 i))), (2, (.ptr 0 0)), (4, (.ptr 1 0)), (9, (.d (eB (!x1))))] [(.var (.d (eStore s))), (.var (.agg [(.agg [(.full (([] : (List Str)).map eS)), (.full (([] : (List Write)).map eWrite)), (.d (eI64 (0 : Int))), (.d (eB false))]), (.agg [(.d (eI64 (0 : Int))), (.agg [(.d (eU64 (0 : Int))), (.d (eU64 (0 : Int))), (.agg [(.d (eU64 (0 : Int))), (.d (eU64 (0 : Int)))])]), (.d (eB false)), (.d (eB false)), (.d (eB false))]), (.d (eU32 (0 : Int)))]))] [] hmx (by kernel_rfl) (good_vf (t_store_there h2) rfl rfl good_nil) ?_
  rcases Bool.eq_false_or_eq_true (!x1) with h3 | h3
  · have hg := ite_t hg h3
    refine cd_t h3 (by kernel_rfl) ?_
    refine aw_seq ?_
    refine rg (Z := Zt) 0 0 [] [] [(4, (.ptr 1 0)), (5, (.d (eI64 (4 : Int))))] [(.var (.d (eStore s))), (.var (.d (eStore s)))] [] hmx (by kernel_rfl) good_nil ?_
    refine aw_ret ?_
    have hg := some_o hg
    subst hg
    exact lv_r [true, true] [] (by kernel_rfl)
  · have hg := ite_f hg h3
    refine cd_f h3 (by kernel_rfl) ?_
    refine aw_skip ?_
    refine aw_seq ?_
    obtain ⟨x4, h5, hg⟩ := bnd_o hg
    obtain ⟨x6, h7, hg⟩ := bnd_o hg
    refine rg (Z := Zt) 0 0 [(5, .vf (.d (eU32 x4))), (6, .vf (.tup [(.d (eStore x6.1)), (.d (eI64 x6.2))]))] [.vf 75 [(.d (eU32 s.mask)), (.d ((eL eI64) ([i] : (List Int))))], .vf 72 [(.d (eStore s)), (.d (eU32 x4)), (.fn 76 [])]] [(4, (.ptr 1 0)), (5, (.d (eI64 x6.2)))] [(.var (.d (eStore s))), (.var (.d (eStore x6.1)))] [] hmx (by kernel_rfl) (good_vf (t_mask_Clear h5) rfl rfl (good_vf (t_store_keep_76 h7) rfl rfl good_nil)) ?_
    refine aw_ret ?_
    have hg := some_o hg
    subst hg
    exact lv_r [true, true] [] (by kernel_rfl)
end Go.Am
