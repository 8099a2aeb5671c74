/- Printed by geng.py: functions of the program as Lean functions, with the proofs that the code comes to them. -/
import Derived.Test.YtbhgeilmhknnaaaGreatDoorAmF5
namespace Go.Am
open Go.Proofs
set_option maxRecDepth 100000
/- law15.alive -/
def law15_alive (n : Nat)  : Option Bool :=
  (Bnd (ref15_New n (3 : Int)) fun x1 => (Nd1 (store_Attach n x1.disk) fun x3 => (Bnd (store_Mark n x3.1 (2 : Int)) fun x5 => (Bnd (store_Put n x5.1 (2 : Int) ([97, 98, 99, 100, 101, 102, 103, 104] : Str)) fun x7 => (Let (ref04_Crash x7.1.disk) fun x9 => (Bnd (ref04_Revive n x9 ([] : (List Bool))) fun x11 => (Nd1 (store_Attach n x11) fun x13 => (Bnd (store_Read x13.1 (2 : Int)) fun x15 => (Bnd (store_Wipe n x7.1 (2 : Int)) fun x17 => (Bnd (store_Commit n x17.1 (Super.mk (3 : Int) (Vector.mk (8 : Int) (0 : Int) (A2.mk (0 : Int) (0 : Int))) false false false)) fun x19 => (Nd1 (store_Attach n (Disk.mk ([([] : Str), ([] : Str), ([] : Str)] : (List Str)) ([] : (List Write)) (0 : Int) false)) fun x21 => (Bnd (store_Mark n x3.1 (3 : Int)) fun x23 => (Bnd (store_Join n x19.1 (5 : Int)) fun x25 => (bif (x3.2 == (0 : Int)) then (bif (x5.2 == (0 : Int)) then (bif (x7.2 == (0 : Int)) then (bif (x13.2 == (0 : Int)) then (bif (x15.2 == (0 : Int)) then (bif (x17.2 == (0 : Int)) then (bif (x19.2 == (0 : Int)) then (bif (x21.2 == (2 : Int)) then (bif (x23.2 == (4 : Int)) then (bif (x25.2 == (0 : Int)) then (bif (x13.1.mask == (4 : Int)) then (bif (x15.1 == ([97, 98, 99, 100, 101, 102, 103, 104] : Str)) then (bif (x17.1.mask == (0 : Int)) then (bif ((x17.1.disk.cache.length : Int) == (1 : Int)) then (bif (x19.1.super.vector.current == (8 : Int)) then (bif ((x19.1.disk.cache.length : Int) == (0 : Int)) then (bif (x25.1.mask == (5 : Int)) then (Bnd (store_Same n x3.1 x3.1) fun x44 => (bif x44 then (Bnd (store_Same n x3.1 x5.1) fun x47 => (some (!x47))) else (some false))) else (some false)) else (some false)) else (some false)) else (some false)) else (some false)) else (some false)) else (some false)) else (some false)) else (some false)) else (some false)) else (some false)) else (some false)) else (some false)) else (some false)) else (some false)) else (some false)) else (some false)))))))))))))))
theorem t_law15_alive {n : Nat}  {r : Bool} (hg : law15_alive n = some r) : VF Pg 12 [] (single [(.d (eB r))]) := by
  refine fn_ok (fn := Tryz.f12) (by kernel_rfl) rfl (by kernel_rfl) (Nat.le_of_ble_eq_true (by kernel_rfl)) fun B hB => ?_
  refine aw_seq ?_
  refine rg (Z := Zt) 0 0 [] [] [] [] [] hmx (by kernel_rfl) good_nil ?_
  refine aw_seq ?_
  obtain ⟨x1, h2, hg⟩ := bnd_o hg
  obtain ⟨x3p, h4, hg⟩ := nd1_o hg
  refine rg_nd (Z := Zt) 1 0 2 24 [(0, .vf (.d (eStore x1)))] [.vf 14 [(.d (eI64 (3 : Int)))]] [(23, (.d (eDisk x1.disk)))] [.hole] [] (fun b => (.tup [(.d (eStore (sel b x3p).1)), (.d (eI64 (sel b x3p).2))])) (by kernel_rfl) (good_vf (t_ref15_New h2) rfl rfl good_nil) (by kernel_rfl) (t_store_Attach h4) rfl (fun _ => rfl) fun x3b => ?_
  generalize hsx3 : sel x3b x3p = x3
  have hg := hg x3b x3 hsx3.symm
  refine rg_tl (Z := Zt) 0 0 [] [] [(1, (.ptr 0 0)), (2, (.d (eI64 x3.2)))] [(.var (.d (eStore x3.1)))] [] (by kernel_rfl) good_nil ?_
  refine aw_seq ?_
  obtain ⟨x5, h6, hg⟩ := bnd_o hg
  refine rg (Z := Zt) 1 0 [(1, .vf (.tup [(.d (eStore x5.1)), (.d (eI64 x5.2))]))] [.vf 19 [(.d (eStore x3.1)), (.d (eI64 (2 : Int)))]] [(1, (.ptr 0 0)), (2, (.d (eI64 x3.2))), (3, (.ptr 1 0)), (4, (.d (eI64 x5.2)))] [(.var (.d (eStore x3.1))), (.var (.d (eStore x5.1)))] [] hmx (by kernel_rfl) (good_vf (t_store_Mark h6) rfl rfl good_nil) ?_
  refine aw_seq ?_
  obtain ⟨x7, h8, hg⟩ := bnd_o hg
  refine rg (Z := Zt) 1 0 [(1, .vf (.tup [(.d (eStore x7.1)), (.d (eI64 x7.2))]))] [.vf 57 [(.d (eStore x5.1)), (.d (eI64 (2 : Int))), (.d (eS ([97, 98, 99, 100, 101, 102, 103, 104] : Str)))]] [(1, (.ptr 0 0)), (2, (.d (eI64 x3.2))), (3, (.ptr 1 0)), (4, (.d (eI64 x5.2))), (5, (.ptr 2 0)), (6, (.d (eI64 x7.2)))] [(.var (.d (eStore x3.1))), (.var (.d (eStore x5.1))), (.var (.d (eStore x7.1)))] [] hmx (by kernel_rfl) (good_vf (t_store_Put h8) rfl rfl good_nil) ?_
  refine aw_seq ?_
  obtain ⟨x9, h10, hg⟩ := let_o hg
  obtain ⟨x11, h12, hg⟩ := bnd_o hg
  obtain ⟨x13p, h14, hg⟩ := nd1_o hg
  refine rg_nd (Z := Zt) 1 0 4 42 [(2, .vf (.d (eDisk x9))), (3, .vf (.d (eDisk x11)))] [.vf 23 [(.d (eDisk x7.1.disk))], .vf 22 [(.d (eDisk x9)), (.d ((eL eB) ([] : (List Bool))))]] [(1, (.ptr 0 0)), (2, (.d (eI64 x3.2))), (3, (.ptr 1 0)), (4, (.d (eI64 x5.2))), (5, (.ptr 2 0)), (6, (.d (eI64 x7.2))), (41, (.d (eDisk x11)))] [(.var (.d (eStore x3.1))), (.var (.d (eStore x5.1))), (.var (.d (eStore x7.1))), .hole] [] (fun b => (.tup [(.d (eStore (sel b x13p).1)), (.d (eI64 (sel b x13p).2))])) (by kernel_rfl) (good_vf (t_ref04_Crash h10) rfl rfl (good_vf (t_ref04_Revive h12) rfl rfl good_nil)) (by kernel_rfl) (t_store_Attach h14) rfl (fun _ => rfl) fun x13b => ?_
  generalize hsx13 : sel x13b x13p = x13
  have hg := hg x13b x13 hsx13.symm
  refine rg_tl (Z := Zt) 3 0 [] [] [(1, (.ptr 0 0)), (2, (.d (eI64 x3.2))), (3, (.ptr 1 0)), (4, (.d (eI64 x5.2))), (5, (.ptr 2 0)), (6, (.d (eI64 x7.2))), (7, (.ptr 3 0)), (8, (.d (eI64 x13.2)))] [(.var (.d (eStore x3.1))), (.var (.d (eStore x5.1))), (.var (.d (eStore x7.1))), (.var (.d (eStore x13.1)))] [] (by kernel_rfl) good_nil ?_
  refine aw_seq ?_
  obtain ⟨x15, h16, hg⟩ := bnd_o hg
  refine rg (Z := Zt) 0 0 [(1, .vf (.tup [(.d (eS x15.1)), (.d (eI64 x15.2))]))] [.vf 58 [(.d (eStore x13.1)), (.d (eI64 (2 : Int)))]] [(1, (.ptr 0 0)), (2, (.d (eI64 x3.2))), (3, (.ptr 1 0)), (4, (.d (eI64 x5.2))), (5, (.ptr 2 0)), (6, (.d (eI64 x7.2))), (7, (.ptr 3 0)), (8, (.d (eI64 x13.2))), (9, (.d (eS x15.1))), (10, (.d (eI64 x15.2)))] [(.var (.d (eStore x3.1))), (.var (.d (eStore x5.1))), (.var (.d (eStore x7.1))), (.var (.d (eStore x13.1)))] [] hmx (by kernel_rfl) (good_vf (t_store_Read h16) rfl rfl good_nil) ?_
  refine aw_seq ?_
  obtain ⟨x17, h18, hg⟩ := bnd_o hg
  refine rg (Z := Zt) 1 0 [(1, .vf (.tup [(.d (eStore x17.1)), (.d (eI64 x17.2))]))] [.vf 20 [(.d (eStore x7.1)), (.d (eI64 (2 : Int)))]] [(1, (.ptr 0 0)), (2, (.d (eI64 x3.2))), (3, (.ptr 1 0)), (4, (.d (eI64 x5.2))), (6, (.d (eI64 x7.2))), (7, (.ptr 3 0)), (8, (.d (eI64 x13.2))), (9, (.d (eS x15.1))), (10, (.d (eI64 x15.2))), (11, (.ptr 4 0)), (12, (.d (eI64 x17.2)))] [(.var (.d (eStore x3.1))), (.var (.d (eStore x5.1))), (.var (.d (eStore x7.1))), (.var (.d (eStore x13.1))), (.var (.d (eStore x17.1)))] [] hmx (by kernel_rfl) (good_vf (t_store_Wipe h18) rfl rfl good_nil) ?_
  refine aw_seq ?_
  obtain ⟨x19, h20, hg⟩ := bnd_o hg
  refine rg (Z := Zt) 1 0 [(3, .vf (.tup [(.d (eStore x19.1)), (.d (eI64 x19.2))]))] [.vf 59 [(.d (eStore x17.1)), (.d (eSuper (Super.mk (3 : Int) (Vector.mk (8 : Int) (0 : Int) (A2.mk (0 : Int) (0 : Int))) false false false)))]] [(1, (.ptr 0 0)), (2, (.d (eI64 x3.2))), (3, (.ptr 1 0)), (4, (.d (eI64 x5.2))), (6, (.d (eI64 x7.2))), (7, (.ptr 3 0)), (8, (.d (eI64 x13.2))), (9, (.d (eS x15.1))), (10, (.d (eI64 x15.2))), (11, (.ptr 4 0)), (12, (.d (eI64 x17.2))), (13, (.ptr 5 0)), (14, (.d (eI64 x19.2)))] [(.var (.d (eStore x3.1))), (.var (.d (eStore x5.1))), (.var (.d (eStore x7.1))), (.var (.d (eStore x13.1))), (.var (.d (eStore x17.1))), (.var (.d (eStore x19.1)))] [] hmx (by kernel_rfl) (good_vf (t_store_Commit h20) rfl rfl good_nil) ?_
  refine aw_seq ?_
  obtain ⟨x21p, h22, hg⟩ := nd1_o hg
  refine rg_nd (Z := Zt) 1 0 2 65 [] [] [(1, (.ptr 0 0)), (2, (.d (eI64 x3.2))), (3, (.ptr 1 0)), (4, (.d (eI64 x5.2))), (6, (.d (eI64 x7.2))), (7, (.ptr 3 0)), (8, (.d (eI64 x13.2))), (9, (.d (eS x15.1))), (10, (.d (eI64 x15.2))), (11, (.ptr 4 0)), (12, (.d (eI64 x17.2))), (13, (.ptr 5 0)), (14, (.d (eI64 x19.2))), (64, (.agg [(.full (([([] : Str), ([] : Str), ([] : Str)] : (List Str)).map eS)), (.full (([] : (List Write)).map eWrite)), (.d (eI64 (0 : Int))), (.d (eB false))]))] [(.var (.d (eStore x3.1))), (.var (.d (eStore x5.1))), (.var (.d (eStore x7.1))), (.var (.d (eStore x13.1))), (.var (.d (eStore x17.1))), (.var (.d (eStore x19.1))), .hole] [] (fun b => (.tup [(.d (eStore (sel b x21p).1)), (.d (eI64 (sel b x21p).2))])) (by kernel_rfl) good_nil (by kernel_rfl) (t_store_Attach h22) rfl (fun _ => rfl) fun x21b => ?_
  generalize hsx21 : sel x21b x21p = x21
  have hg := hg x21b x21 hsx21.symm
  refine rg_tl (Z := Zt) 6 0 [] [] [(1, (.ptr 0 0)), (2, (.d (eI64 x3.2))), (3, (.ptr 1 0)), (4, (.d (eI64 x5.2))), (6, (.d (eI64 x7.2))), (7, (.ptr 3 0)), (8, (.d (eI64 x13.2))), (9, (.d (eS x15.1))), (10, (.d (eI64 x15.2))), (11, (.ptr 4 0)), (12, (.d (eI64 x17.2))), (13, (.ptr 5 0)), (14, (.d (eI64 x19.2))), (16, (.d (eI64 x21.2)))] [(.var (.d (eStore x3.1))), (.var (.d (eStore x5.1))), (.var (.d (eStore x7.1))), (.var (.d (eStore x13.1))), (.var (.d (eStore x17.1))), (.var (.d (eStore x19.1))), (.var (.d (eStore x21.1)))] [] (by kernel_rfl) good_nil ?_
  refine aw_seq ?_
  obtain ⟨x23, h24, hg⟩ := bnd_o hg
  refine rg (Z := Zt) 1 0 [(1, .vf (.tup [(.d (eStore x23.1)), (.d (eI64 x23.2))]))] [.vf 19 [(.d (eStore x3.1)), (.d (eI64 (3 : Int)))]] [(1, (.ptr 0 0)), (2, (.d (eI64 x3.2))), (3, (.ptr 1 0)), (4, (.d (eI64 x5.2))), (6, (.d (eI64 x7.2))), (7, (.ptr 3 0)), (8, (.d (eI64 x13.2))), (9, (.d (eS x15.1))), (10, (.d (eI64 x15.2))), (11, (.ptr 4 0)), (12, (.d (eI64 x17.2))), (13, (.ptr 5 0)), (14, (.d (eI64 x19.2))), (16, (.d (eI64 x21.2))), (18, (.d (eI64 x23.2)))] [(.var (.d (eStore x3.1))), (.var (.d (eStore x5.1))), (.var (.d (eStore x7.1))), (.var (.d (eStore x13.1))), (.var (.d (eStore x17.1))), (.var (.d (eStore x19.1))), (.var (.d (eStore x21.1))), (.var (.d (eStore x23.1)))] [] hmx (by kernel_rfl) (good_vf (t_store_Mark h24) rfl rfl good_nil) ?_
  refine aw_seq ?_
  obtain ⟨x25, h26, hg⟩ := bnd_o hg
  refine rg (Z := Zt) 1 0 [(1, .vf (.tup [(.d (eStore x25.1)), (.d (eI64 x25.2))]))] [.vf 60 [(.d (eStore x19.1)), (.d (eU32 (5 : Int)))]] [(1, (.ptr 0 0)), (2, (.d (eI64 x3.2))), (3, (.ptr 1 0)), (4, (.d (eI64 x5.2))), (6, (.d (eI64 x7.2))), (7, (.ptr 3 0)), (8, (.d (eI64 x13.2))), (9, (.d (eS x15.1))), (10, (.d (eI64 x15.2))), (11, (.ptr 4 0)), (12, (.d (eI64 x17.2))), (13, (.ptr 5 0)), (14, (.d (eI64 x19.2))), (16, (.d (eI64 x21.2))), (18, (.d (eI64 x23.2))), (19, (.ptr 8 0)), (20, (.d (eI64 x25.2)))] [(.var (.d (eStore x3.1))), (.var (.d (eStore x5.1))), (.var (.d (eStore x7.1))), (.var (.d (eStore x13.1))), (.var (.d (eStore x17.1))), (.var (.d (eStore x19.1))), (.var (.d (eStore x21.1))), (.var (.d (eStore x23.1))), (.var (.d (eStore x25.1)))] [] hmx (by kernel_rfl) (good_vf (t_store_Join h26) rfl rfl good_nil) ?_
  refine aw_seq ?_
  rcases Bool.eq_false_or_eq_true (x3.2 == (0 : Int)) with h27 | h27
  · have hg := ite_t hg h27
    rcases Bool.eq_false_or_eq_true (x5.2 == (0 : Int)) with h28 | h28
    · have hg := ite_t hg h28
      rcases Bool.eq_false_or_eq_true (x7.2 == (0 : Int)) with h29 | h29
      · have hg := ite_t hg h29
        rcases Bool.eq_false_or_eq_true (x13.2 == (0 : Int)) with h30 | h30
        · have hg := ite_t hg h30
          rcases Bool.eq_false_or_eq_true (x15.2 == (0 : Int)) with h31 | h31
          · have hg := ite_t hg h31
            rcases Bool.eq_false_or_eq_true (x17.2 == (0 : Int)) with h32 | h32
            · have hg := ite_t hg h32
              rcases Bool.eq_false_or_eq_true (x19.2 == (0 : Int)) with h33 | h33
              · have hg := ite_t hg h33
                rcases Bool.eq_false_or_eq_true (x21.2 == (2 : Int)) with h34 | h34
                · have hg := ite_t hg h34
                  rcases Bool.eq_false_or_eq_true (x23.2 == (4 : Int)) with h35 | h35
                  · have hg := ite_t hg h35
                    rcases Bool.eq_false_or_eq_true (x25.2 == (0 : Int)) with h36 | h36
                    · have hg := ite_t hg h36
                      rcases Bool.eq_false_or_eq_true (x13.1.mask == (4 : Int)) with h37 | h37
                      · have hg := ite_t hg h37
                        rcases Bool.eq_false_or_eq_true (x15.1 == ([97, 98, 99, 100, 101, 102, 103, 104] : Str)) with h38 | h38
                        · have hg := ite_t hg h38
                          rcases Bool.eq_false_or_eq_true (x17.1.mask == (0 : Int)) with h39 | h39
                          · have hg := ite_t hg h39
                            rcases Bool.eq_false_or_eq_true ((x17.1.disk.cache.length : Int) == (1 : Int)) with h40 | h40
                            · have hg := ite_t hg h40
                              rcases Bool.eq_false_or_eq_true (x19.1.super.vector.current == (8 : Int)) with h41 | h41
                              · have hg := ite_t hg h41
                                rcases Bool.eq_false_or_eq_true ((x19.1.disk.cache.length : Int) == (0 : Int)) with h42 | h42
                                · have hg := ite_t hg h42
                                  rcases Bool.eq_false_or_eq_true (x25.1.mask == (5 : Int)) with h43 | h43
                                  · have hg := ite_t hg h43
                                    obtain ⟨x44, h45, hg⟩ := bnd_o hg
                                    rcases Bool.eq_false_or_eq_true x44 with h46 | h46
                                    · have hg := ite_t hg h46
                                      obtain ⟨x47, h48, hg⟩ := bnd_o hg
                                      refine rg (Z := Zt) 0 0 [(2, .op (.val (.d (eB true)))), (6, .op (.val (.d (eB true)))), (10, .op (.val (.d (eB true)))), (14, .op (.val (.d (eB true)))), (18, .op (.val (.d (eB true)))), (22, .op (.val (.d (eB true)))), (26, .op (.val (.d (eB true)))), (30, .op (.val (.d (eB true)))), (34, .op (.val (.d (eB true)))), (38, .op (.val (.d (eB true)))), (43, .op (.val (.d (eB true)))), (47, .op (.val (.d (eB true)))), (52, .op (.val (.d (eB true)))), (56, .op (.val (.d (eI64 (x17.1.disk.cache.length : Int))))), (59, .op (.val (.d (eB true)))), (66, .op (.val (.d (eB true)))), (70, .op (.val (.d (eI64 (x19.1.disk.cache.length : Int))))), (73, .op (.val (.d (eB true)))), (78, .op (.val (.d (eB true)))), (81, .vf (.d (eB x44))), (83, .op (.val (.d (eB true)))), (86, .vf (.d (eB x47)))] [.op (some (.val (.d (eB (x3.2 == (0 : Int)))))), .op (some (.val (.d (eB (x5.2 == (0 : Int)))))), .op (some (.val (.d (eB (x7.2 == (0 : Int)))))), .op (some (.val (.d (eB (x13.2 == (0 : Int)))))), .op (some (.val (.d (eB (x15.2 == (0 : Int)))))), .op (some (.val (.d (eB (x17.2 == (0 : Int)))))), .op (some (.val (.d (eB (x19.2 == (0 : Int)))))), .op (some (.val (.d (eB (x21.2 == (2 : Int)))))), .op (some (.val (.d (eB (x23.2 == (4 : Int)))))), .op (some (.val (.d (eB (x25.2 == (0 : Int)))))), .op (some (.val (.d (eB (x13.1.mask == (4 : Int)))))), .op (some (.val (.d (eB (x15.1 == ([97, 98, 99, 100, 101, 102, 103, 104] : Str)))))), .op (some (.val (.d (eB (x17.1.mask == (0 : Int)))))), .op (xLen Pg 26 (.d ((eL eWrite) x17.1.disk.cache))), .op (some (.val (.d (eB ((x17.1.disk.cache.length : Int) == (1 : Int)))))), .op (some (.val (.d (eB (x19.1.super.vector.current == (8 : Int)))))), .op (xLen Pg 26 (.d ((eL eWrite) x19.1.disk.cache))), .op (some (.val (.d (eB ((x19.1.disk.cache.length : Int) == (0 : Int)))))), .op (some (.val (.d (eB (x25.1.mask == (5 : Int)))))), .vf 61 [(.d (eStore x3.1)), (.d (eStore x3.1))], .op (some (.val (.d (eB x44)))), .vf 61 [(.d (eStore x3.1)), (.d (eStore x5.1))]] [(0, (.d (eB (!x47))))] [(.var (.d (eStore x3.1))), (.var (.d (eStore x5.1))), (.var (.d (eStore x7.1))), (.var (.d (eStore x13.1))), (.var (.d (eStore x17.1))), (.var (.d (eStore x19.1))), (.var (.d (eStore x21.1))), (.var (.d (eStore x23.1))), (.var (.d (eStore x25.1)))] [] hmx (by kernel_rfl) (good_op (bo h27) (good_op (bo h28) (good_op (bo h29) (good_op (bo h30) (good_op (bo h31) (good_op (bo h32) (good_op (bo h33) (good_op (bo h34) (good_op (bo h35) (good_op (bo h36) (good_op (bo h37) (good_op (bo h38) (good_op (bo h39) (good_op (len_d (e := 126) (by kernel_rfl)) (good_op (bo h40) (good_op (bo h41) (good_op (len_d (e := 126) (by kernel_rfl)) (good_op (bo h42) (good_op (bo h43) (good_vf (t_store_Same h45) rfl rfl (good_op (bo h46) (good_vf (t_store_Same h48) rfl rfl good_nil)))))))))))))))))))))) ?_
                                      refine aw_ret ?_
                                      have hg := some_o hg
                                      subst hg
                                      exact lv_r [true] [] (by kernel_rfl)
                                    · have hg := ite_f hg h46
                                      refine rg (Z := Zt) 0 0 [(2, .op (.val (.d (eB true)))), (6, .op (.val (.d (eB true)))), (10, .op (.val (.d (eB true)))), (14, .op (.val (.d (eB true)))), (18, .op (.val (.d (eB true)))), (22, .op (.val (.d (eB true)))), (26, .op (.val (.d (eB true)))), (30, .op (.val (.d (eB true)))), (34, .op (.val (.d (eB true)))), (38, .op (.val (.d (eB true)))), (43, .op (.val (.d (eB true)))), (47, .op (.val (.d (eB true)))), (52, .op (.val (.d (eB true)))), (56, .op (.val (.d (eI64 (x17.1.disk.cache.length : Int))))), (59, .op (.val (.d (eB true)))), (66, .op (.val (.d (eB true)))), (70, .op (.val (.d (eI64 (x19.1.disk.cache.length : Int))))), (73, .op (.val (.d (eB true)))), (78, .op (.val (.d (eB true)))), (81, .vf (.d (eB x44))), (83, .op (.val (.d (eB false))))] [.op (some (.val (.d (eB (x3.2 == (0 : Int)))))), .op (some (.val (.d (eB (x5.2 == (0 : Int)))))), .op (some (.val (.d (eB (x7.2 == (0 : Int)))))), .op (some (.val (.d (eB (x13.2 == (0 : Int)))))), .op (some (.val (.d (eB (x15.2 == (0 : Int)))))), .op (some (.val (.d (eB (x17.2 == (0 : Int)))))), .op (some (.val (.d (eB (x19.2 == (0 : Int)))))), .op (some (.val (.d (eB (x21.2 == (2 : Int)))))), .op (some (.val (.d (eB (x23.2 == (4 : Int)))))), .op (some (.val (.d (eB (x25.2 == (0 : Int)))))), .op (some (.val (.d (eB (x13.1.mask == (4 : Int)))))), .op (some (.val (.d (eB (x15.1 == ([97, 98, 99, 100, 101, 102, 103, 104] : Str)))))), .op (some (.val (.d (eB (x17.1.mask == (0 : Int)))))), .op (xLen Pg 26 (.d ((eL eWrite) x17.1.disk.cache))), .op (some (.val (.d (eB ((x17.1.disk.cache.length : Int) == (1 : Int)))))), .op (some (.val (.d (eB (x19.1.super.vector.current == (8 : Int)))))), .op (xLen Pg 26 (.d ((eL eWrite) x19.1.disk.cache))), .op (some (.val (.d (eB ((x19.1.disk.cache.length : Int) == (0 : Int)))))), .op (some (.val (.d (eB (x25.1.mask == (5 : Int)))))), .vf 61 [(.d (eStore x3.1)), (.d (eStore x3.1))], .op (some (.val (.d (eB x44))))] [(0, (.d (eB false)))] [(.var (.d (eStore x3.1))), (.var (.d (eStore x5.1))), (.var (.d (eStore x7.1))), (.var (.d (eStore x13.1))), (.var (.d (eStore x17.1))), (.var (.d (eStore x19.1))), (.var (.d (eStore x21.1))), (.var (.d (eStore x23.1))), (.var (.d (eStore x25.1)))] [] hmx (by kernel_rfl) (good_op (bo h27) (good_op (bo h28) (good_op (bo h29) (good_op (bo h30) (good_op (bo h31) (good_op (bo h32) (good_op (bo h33) (good_op (bo h34) (good_op (bo h35) (good_op (bo h36) (good_op (bo h37) (good_op (bo h38) (good_op (bo h39) (good_op (len_d (e := 126) (by kernel_rfl)) (good_op (bo h40) (good_op (bo h41) (good_op (len_d (e := 126) (by kernel_rfl)) (good_op (bo h42) (good_op (bo h43) (good_vf (t_store_Same h45) rfl rfl (good_op (bo h46) good_nil))))))))))))))))))))) ?_
                                      refine aw_ret ?_
                                      have hg := some_o hg
                                      subst hg
                                      exact lv_r [true] [] (by kernel_rfl)
                                  · have hg := ite_f hg h43
                                    refine rg (Z := Zt) 0 0 [(2, .op (.val (.d (eB true)))), (6, .op (.val (.d (eB true)))), (10, .op (.val (.d (eB true)))), (14, .op (.val (.d (eB true)))), (18, .op (.val (.d (eB true)))), (22, .op (.val (.d (eB true)))), (26, .op (.val (.d (eB true)))), (30, .op (.val (.d (eB true)))), (34, .op (.val (.d (eB true)))), (38, .op (.val (.d (eB true)))), (43, .op (.val (.d (eB true)))), (47, .op (.val (.d (eB true)))), (52, .op (.val (.d (eB true)))), (56, .op (.val (.d (eI64 (x17.1.disk.cache.length : Int))))), (59, .op (.val (.d (eB true)))), (66, .op (.val (.d (eB true)))), (70, .op (.val (.d (eI64 (x19.1.disk.cache.length : Int))))), (73, .op (.val (.d (eB true)))), (78, .op (.val (.d (eB false))))] [.op (some (.val (.d (eB (x3.2 == (0 : Int)))))), .op (some (.val (.d (eB (x5.2 == (0 : Int)))))), .op (some (.val (.d (eB (x7.2 == (0 : Int)))))), .op (some (.val (.d (eB (x13.2 == (0 : Int)))))), .op (some (.val (.d (eB (x15.2 == (0 : Int)))))), .op (some (.val (.d (eB (x17.2 == (0 : Int)))))), .op (some (.val (.d (eB (x19.2 == (0 : Int)))))), .op (some (.val (.d (eB (x21.2 == (2 : Int)))))), .op (some (.val (.d (eB (x23.2 == (4 : Int)))))), .op (some (.val (.d (eB (x25.2 == (0 : Int)))))), .op (some (.val (.d (eB (x13.1.mask == (4 : Int)))))), .op (some (.val (.d (eB (x15.1 == ([97, 98, 99, 100, 101, 102, 103, 104] : Str)))))), .op (some (.val (.d (eB (x17.1.mask == (0 : Int)))))), .op (xLen Pg 26 (.d ((eL eWrite) x17.1.disk.cache))), .op (some (.val (.d (eB ((x17.1.disk.cache.length : Int) == (1 : Int)))))), .op (some (.val (.d (eB (x19.1.super.vector.current == (8 : Int)))))), .op (xLen Pg 26 (.d ((eL eWrite) x19.1.disk.cache))), .op (some (.val (.d (eB ((x19.1.disk.cache.length : Int) == (0 : Int)))))), .op (some (.val (.d (eB (x25.1.mask == (5 : Int))))))] [(0, (.d (eB false)))] [(.var (.d (eStore x3.1))), (.var (.d (eStore x5.1))), (.var (.d (eStore x7.1))), (.var (.d (eStore x13.1))), (.var (.d (eStore x17.1))), (.var (.d (eStore x19.1))), (.var (.d (eStore x21.1))), (.var (.d (eStore x23.1))), (.var (.d (eStore x25.1)))] [] hmx (by kernel_rfl) (good_op (bo h27) (good_op (bo h28) (good_op (bo h29) (good_op (bo h30) (good_op (bo h31) (good_op (bo h32) (good_op (bo h33) (good_op (bo h34) (good_op (bo h35) (good_op (bo h36) (good_op (bo h37) (good_op (bo h38) (good_op (bo h39) (good_op (len_d (e := 126) (by kernel_rfl)) (good_op (bo h40) (good_op (bo h41) (good_op (len_d (e := 126) (by kernel_rfl)) (good_op (bo h42) (good_op (bo h43) good_nil))))))))))))))))))) ?_
                                    refine aw_ret ?_
                                    have hg := some_o hg
                                    subst hg
                                    exact lv_r [true] [] (by kernel_rfl)
                                · have hg := ite_f hg h42
                                  refine rg (Z := Zt) 0 0 [(2, .op (.val (.d (eB true)))), (6, .op (.val (.d (eB true)))), (10, .op (.val (.d (eB true)))), (14, .op (.val (.d (eB true)))), (18, .op (.val (.d (eB true)))), (22, .op (.val (.d (eB true)))), (26, .op (.val (.d (eB true)))), (30, .op (.val (.d (eB true)))), (34, .op (.val (.d (eB true)))), (38, .op (.val (.d (eB true)))), (43, .op (.val (.d (eB true)))), (47, .op (.val (.d (eB true)))), (52, .op (.val (.d (eB true)))), (56, .op (.val (.d (eI64 (x17.1.disk.cache.length : Int))))), (59, .op (.val (.d (eB true)))), (66, .op (.val (.d (eB true)))), (70, .op (.val (.d (eI64 (x19.1.disk.cache.length : Int))))), (73, .op (.val (.d (eB false))))] [.op (some (.val (.d (eB (x3.2 == (0 : Int)))))), .op (some (.val (.d (eB (x5.2 == (0 : Int)))))), .op (some (.val (.d (eB (x7.2 == (0 : Int)))))), .op (some (.val (.d (eB (x13.2 == (0 : Int)))))), .op (some (.val (.d (eB (x15.2 == (0 : Int)))))), .op (some (.val (.d (eB (x17.2 == (0 : Int)))))), .op (some (.val (.d (eB (x19.2 == (0 : Int)))))), .op (some (.val (.d (eB (x21.2 == (2 : Int)))))), .op (some (.val (.d (eB (x23.2 == (4 : Int)))))), .op (some (.val (.d (eB (x25.2 == (0 : Int)))))), .op (some (.val (.d (eB (x13.1.mask == (4 : Int)))))), .op (some (.val (.d (eB (x15.1 == ([97, 98, 99, 100, 101, 102, 103, 104] : Str)))))), .op (some (.val (.d (eB (x17.1.mask == (0 : Int)))))), .op (xLen Pg 26 (.d ((eL eWrite) x17.1.disk.cache))), .op (some (.val (.d (eB ((x17.1.disk.cache.length : Int) == (1 : Int)))))), .op (some (.val (.d (eB (x19.1.super.vector.current == (8 : Int)))))), .op (xLen Pg 26 (.d ((eL eWrite) x19.1.disk.cache))), .op (some (.val (.d (eB ((x19.1.disk.cache.length : Int) == (0 : Int))))))] [(0, (.d (eB false)))] [(.var (.d (eStore x3.1))), (.var (.d (eStore x5.1))), (.var (.d (eStore x7.1))), (.var (.d (eStore x13.1))), (.var (.d (eStore x17.1))), (.var (.d (eStore x19.1))), (.var (.d (eStore x21.1))), (.var (.d (eStore x23.1))), (.var (.d (eStore x25.1)))] [] hmx (by kernel_rfl) (good_op (bo h27) (good_op (bo h28) (good_op (bo h29) (good_op (bo h30) (good_op (bo h31) (good_op (bo h32) (good_op (bo h33) (good_op (bo h34) (good_op (bo h35) (good_op (bo h36) (good_op (bo h37) (good_op (bo h38) (good_op (bo h39) (good_op (len_d (e := 126) (by kernel_rfl)) (good_op (bo h40) (good_op (bo h41) (good_op (len_d (e := 126) (by kernel_rfl)) (good_op (bo h42) good_nil)))))))))))))))))) ?_
                                  refine aw_ret ?_
                                  have hg := some_o hg
                                  subst hg
                                  exact lv_r [true] [] (by kernel_rfl)
                              · have hg := ite_f hg h41
                                refine rg (Z := Zt) 0 0 [(2, .op (.val (.d (eB true)))), (6, .op (.val (.d (eB true)))), (10, .op (.val (.d (eB true)))), (14, .op (.val (.d (eB true)))), (18, .op (.val (.d (eB true)))), (22, .op (.val (.d (eB true)))), (26, .op (.val (.d (eB true)))), (30, .op (.val (.d (eB true)))), (34, .op (.val (.d (eB true)))), (38, .op (.val (.d (eB true)))), (43, .op (.val (.d (eB true)))), (47, .op (.val (.d (eB true)))), (52, .op (.val (.d (eB true)))), (56, .op (.val (.d (eI64 (x17.1.disk.cache.length : Int))))), (59, .op (.val (.d (eB true)))), (66, .op (.val (.d (eB false))))] [.op (some (.val (.d (eB (x3.2 == (0 : Int)))))), .op (some (.val (.d (eB (x5.2 == (0 : Int)))))), .op (some (.val (.d (eB (x7.2 == (0 : Int)))))), .op (some (.val (.d (eB (x13.2 == (0 : Int)))))), .op (some (.val (.d (eB (x15.2 == (0 : Int)))))), .op (some (.val (.d (eB (x17.2 == (0 : Int)))))), .op (some (.val (.d (eB (x19.2 == (0 : Int)))))), .op (some (.val (.d (eB (x21.2 == (2 : Int)))))), .op (some (.val (.d (eB (x23.2 == (4 : Int)))))), .op (some (.val (.d (eB (x25.2 == (0 : Int)))))), .op (some (.val (.d (eB (x13.1.mask == (4 : Int)))))), .op (some (.val (.d (eB (x15.1 == ([97, 98, 99, 100, 101, 102, 103, 104] : Str)))))), .op (some (.val (.d (eB (x17.1.mask == (0 : Int)))))), .op (xLen Pg 26 (.d ((eL eWrite) x17.1.disk.cache))), .op (some (.val (.d (eB ((x17.1.disk.cache.length : Int) == (1 : Int)))))), .op (some (.val (.d (eB (x19.1.super.vector.current == (8 : Int))))))] [(0, (.d (eB false)))] [(.var (.d (eStore x3.1))), (.var (.d (eStore x5.1))), (.var (.d (eStore x7.1))), (.var (.d (eStore x13.1))), (.var (.d (eStore x17.1))), (.var (.d (eStore x19.1))), (.var (.d (eStore x21.1))), (.var (.d (eStore x23.1))), (.var (.d (eStore x25.1)))] [] hmx (by kernel_rfl) (good_op (bo h27) (good_op (bo h28) (good_op (bo h29) (good_op (bo h30) (good_op (bo h31) (good_op (bo h32) (good_op (bo h33) (good_op (bo h34) (good_op (bo h35) (good_op (bo h36) (good_op (bo h37) (good_op (bo h38) (good_op (bo h39) (good_op (len_d (e := 126) (by kernel_rfl)) (good_op (bo h40) (good_op (bo h41) good_nil)))))))))))))))) ?_
                                refine aw_ret ?_
                                have hg := some_o hg
                                subst hg
                                exact lv_r [true] [] (by kernel_rfl)
                            · have hg := ite_f hg h40
                              refine rg (Z := Zt) 0 0 [(2, .op (.val (.d (eB true)))), (6, .op (.val (.d (eB true)))), (10, .op (.val (.d (eB true)))), (14, .op (.val (.d (eB true)))), (18, .op (.val (.d (eB true)))), (22, .op (.val (.d (eB true)))), (26, .op (.val (.d (eB true)))), (30, .op (.val (.d (eB true)))), (34, .op (.val (.d (eB true)))), (38, .op (.val (.d (eB true)))), (43, .op (.val (.d (eB true)))), (47, .op (.val (.d (eB true)))), (52, .op (.val (.d (eB true)))), (56, .op (.val (.d (eI64 (x17.1.disk.cache.length : Int))))), (59, .op (.val (.d (eB false))))] [.op (some (.val (.d (eB (x3.2 == (0 : Int)))))), .op (some (.val (.d (eB (x5.2 == (0 : Int)))))), .op (some (.val (.d (eB (x7.2 == (0 : Int)))))), .op (some (.val (.d (eB (x13.2 == (0 : Int)))))), .op (some (.val (.d (eB (x15.2 == (0 : Int)))))), .op (some (.val (.d (eB (x17.2 == (0 : Int)))))), .op (some (.val (.d (eB (x19.2 == (0 : Int)))))), .op (some (.val (.d (eB (x21.2 == (2 : Int)))))), .op (some (.val (.d (eB (x23.2 == (4 : Int)))))), .op (some (.val (.d (eB (x25.2 == (0 : Int)))))), .op (some (.val (.d (eB (x13.1.mask == (4 : Int)))))), .op (some (.val (.d (eB (x15.1 == ([97, 98, 99, 100, 101, 102, 103, 104] : Str)))))), .op (some (.val (.d (eB (x17.1.mask == (0 : Int)))))), .op (xLen Pg 26 (.d ((eL eWrite) x17.1.disk.cache))), .op (some (.val (.d (eB ((x17.1.disk.cache.length : Int) == (1 : Int))))))] [(0, (.d (eB false)))] [(.var (.d (eStore x3.1))), (.var (.d (eStore x5.1))), (.var (.d (eStore x7.1))), (.var (.d (eStore x13.1))), (.var (.d (eStore x17.1))), (.var (.d (eStore x19.1))), (.var (.d (eStore x21.1))), (.var (.d (eStore x23.1))), (.var (.d (eStore x25.1)))] [] hmx (by kernel_rfl) (good_op (bo h27) (good_op (bo h28) (good_op (bo h29) (good_op (bo h30) (good_op (bo h31) (good_op (bo h32) (good_op (bo h33) (good_op (bo h34) (good_op (bo h35) (good_op (bo h36) (good_op (bo h37) (good_op (bo h38) (good_op (bo h39) (good_op (len_d (e := 126) (by kernel_rfl)) (good_op (bo h40) good_nil))))))))))))))) ?_
                              refine aw_ret ?_
                              have hg := some_o hg
                              subst hg
                              exact lv_r [true] [] (by kernel_rfl)
                          · have hg := ite_f hg h39
                            refine rg (Z := Zt) 0 0 [(2, .op (.val (.d (eB true)))), (6, .op (.val (.d (eB true)))), (10, .op (.val (.d (eB true)))), (14, .op (.val (.d (eB true)))), (18, .op (.val (.d (eB true)))), (22, .op (.val (.d (eB true)))), (26, .op (.val (.d (eB true)))), (30, .op (.val (.d (eB true)))), (34, .op (.val (.d (eB true)))), (38, .op (.val (.d (eB true)))), (43, .op (.val (.d (eB true)))), (47, .op (.val (.d (eB true)))), (52, .op (.val (.d (eB false))))] [.op (some (.val (.d (eB (x3.2 == (0 : Int)))))), .op (some (.val (.d (eB (x5.2 == (0 : Int)))))), .op (some (.val (.d (eB (x7.2 == (0 : Int)))))), .op (some (.val (.d (eB (x13.2 == (0 : Int)))))), .op (some (.val (.d (eB (x15.2 == (0 : Int)))))), .op (some (.val (.d (eB (x17.2 == (0 : Int)))))), .op (some (.val (.d (eB (x19.2 == (0 : Int)))))), .op (some (.val (.d (eB (x21.2 == (2 : Int)))))), .op (some (.val (.d (eB (x23.2 == (4 : Int)))))), .op (some (.val (.d (eB (x25.2 == (0 : Int)))))), .op (some (.val (.d (eB (x13.1.mask == (4 : Int)))))), .op (some (.val (.d (eB (x15.1 == ([97, 98, 99, 100, 101, 102, 103, 104] : Str)))))), .op (some (.val (.d (eB (x17.1.mask == (0 : Int))))))] [(0, (.d (eB false)))] [(.var (.d (eStore x3.1))), (.var (.d (eStore x5.1))), (.var (.d (eStore x7.1))), (.var (.d (eStore x13.1))), (.var (.d (eStore x17.1))), (.var (.d (eStore x19.1))), (.var (.d (eStore x21.1))), (.var (.d (eStore x23.1))), (.var (.d (eStore x25.1)))] [] hmx (by kernel_rfl) (good_op (bo h27) (good_op (bo h28) (good_op (bo h29) (good_op (bo h30) (good_op (bo h31) (good_op (bo h32) (good_op (bo h33) (good_op (bo h34) (good_op (bo h35) (good_op (bo h36) (good_op (bo h37) (good_op (bo h38) (good_op (bo h39) good_nil))))))))))))) ?_
                            refine aw_ret ?_
                            have hg := some_o hg
                            subst hg
                            exact lv_r [true] [] (by kernel_rfl)
                        · have hg := ite_f hg h38
                          refine rg (Z := Zt) 0 0 [(2, .op (.val (.d (eB true)))), (6, .op (.val (.d (eB true)))), (10, .op (.val (.d (eB true)))), (14, .op (.val (.d (eB true)))), (18, .op (.val (.d (eB true)))), (22, .op (.val (.d (eB true)))), (26, .op (.val (.d (eB true)))), (30, .op (.val (.d (eB true)))), (34, .op (.val (.d (eB true)))), (38, .op (.val (.d (eB true)))), (43, .op (.val (.d (eB true)))), (47, .op (.val (.d (eB false))))] [.op (some (.val (.d (eB (x3.2 == (0 : Int)))))), .op (some (.val (.d (eB (x5.2 == (0 : Int)))))), .op (some (.val (.d (eB (x7.2 == (0 : Int)))))), .op (some (.val (.d (eB (x13.2 == (0 : Int)))))), .op (some (.val (.d (eB (x15.2 == (0 : Int)))))), .op (some (.val (.d (eB (x17.2 == (0 : Int)))))), .op (some (.val (.d (eB (x19.2 == (0 : Int)))))), .op (some (.val (.d (eB (x21.2 == (2 : Int)))))), .op (some (.val (.d (eB (x23.2 == (4 : Int)))))), .op (some (.val (.d (eB (x25.2 == (0 : Int)))))), .op (some (.val (.d (eB (x13.1.mask == (4 : Int)))))), .op (some (.val (.d (eB (x15.1 == ([97, 98, 99, 100, 101, 102, 103, 104] : Str))))))] [(0, (.d (eB false)))] [(.var (.d (eStore x3.1))), (.var (.d (eStore x5.1))), (.var (.d (eStore x7.1))), (.var (.d (eStore x13.1))), (.var (.d (eStore x17.1))), (.var (.d (eStore x19.1))), (.var (.d (eStore x21.1))), (.var (.d (eStore x23.1))), (.var (.d (eStore x25.1)))] [] hmx (by kernel_rfl) (good_op (bo h27) (good_op (bo h28) (good_op (bo h29) (good_op (bo h30) (good_op (bo h31) (good_op (bo h32) (good_op (bo h33) (good_op (bo h34) (good_op (bo h35) (good_op (bo h36) (good_op (bo h37) (good_op (bo h38) good_nil)))))))))))) ?_
                          refine aw_ret ?_
                          have hg := some_o hg
                          subst hg
                          exact lv_r [true] [] (by kernel_rfl)
                      · have hg := ite_f hg h37
                        refine rg (Z := Zt) 0 0 [(2, .op (.val (.d (eB true)))), (6, .op (.val (.d (eB true)))), (10, .op (.val (.d (eB true)))), (14, .op (.val (.d (eB true)))), (18, .op (.val (.d (eB true)))), (22, .op (.val (.d (eB true)))), (26, .op (.val (.d (eB true)))), (30, .op (.val (.d (eB true)))), (34, .op (.val (.d (eB true)))), (38, .op (.val (.d (eB true)))), (43, .op (.val (.d (eB false))))] [.op (some (.val (.d (eB (x3.2 == (0 : Int)))))), .op (some (.val (.d (eB (x5.2 == (0 : Int)))))), .op (some (.val (.d (eB (x7.2 == (0 : Int)))))), .op (some (.val (.d (eB (x13.2 == (0 : Int)))))), .op (some (.val (.d (eB (x15.2 == (0 : Int)))))), .op (some (.val (.d (eB (x17.2 == (0 : Int)))))), .op (some (.val (.d (eB (x19.2 == (0 : Int)))))), .op (some (.val (.d (eB (x21.2 == (2 : Int)))))), .op (some (.val (.d (eB (x23.2 == (4 : Int)))))), .op (some (.val (.d (eB (x25.2 == (0 : Int)))))), .op (some (.val (.d (eB (x13.1.mask == (4 : Int))))))] [(0, (.d (eB false)))] [(.var (.d (eStore x3.1))), (.var (.d (eStore x5.1))), (.var (.d (eStore x7.1))), (.var (.d (eStore x13.1))), (.var (.d (eStore x17.1))), (.var (.d (eStore x19.1))), (.var (.d (eStore x21.1))), (.var (.d (eStore x23.1))), (.var (.d (eStore x25.1)))] [] hmx (by kernel_rfl) (good_op (bo h27) (good_op (bo h28) (good_op (bo h29) (good_op (bo h30) (good_op (bo h31) (good_op (bo h32) (good_op (bo h33) (good_op (bo h34) (good_op (bo h35) (good_op (bo h36) (good_op (bo h37) good_nil))))))))))) ?_
                        refine aw_ret ?_
                        have hg := some_o hg
                        subst hg
                        exact lv_r [true] [] (by kernel_rfl)
                    · have hg := ite_f hg h36
                      refine rg (Z := Zt) 0 0 [(2, .op (.val (.d (eB true)))), (6, .op (.val (.d (eB true)))), (10, .op (.val (.d (eB true)))), (14, .op (.val (.d (eB true)))), (18, .op (.val (.d (eB true)))), (22, .op (.val (.d (eB true)))), (26, .op (.val (.d (eB true)))), (30, .op (.val (.d (eB true)))), (34, .op (.val (.d (eB true)))), (38, .op (.val (.d (eB false))))] [.op (some (.val (.d (eB (x3.2 == (0 : Int)))))), .op (some (.val (.d (eB (x5.2 == (0 : Int)))))), .op (some (.val (.d (eB (x7.2 == (0 : Int)))))), .op (some (.val (.d (eB (x13.2 == (0 : Int)))))), .op (some (.val (.d (eB (x15.2 == (0 : Int)))))), .op (some (.val (.d (eB (x17.2 == (0 : Int)))))), .op (some (.val (.d (eB (x19.2 == (0 : Int)))))), .op (some (.val (.d (eB (x21.2 == (2 : Int)))))), .op (some (.val (.d (eB (x23.2 == (4 : Int)))))), .op (some (.val (.d (eB (x25.2 == (0 : Int))))))] [(0, (.d (eB false)))] [(.var (.d (eStore x3.1))), (.var (.d (eStore x5.1))), (.var (.d (eStore x7.1))), (.var (.d (eStore x13.1))), (.var (.d (eStore x17.1))), (.var (.d (eStore x19.1))), (.var (.d (eStore x21.1))), (.var (.d (eStore x23.1))), (.var (.d (eStore x25.1)))] [] hmx (by kernel_rfl) (good_op (bo h27) (good_op (bo h28) (good_op (bo h29) (good_op (bo h30) (good_op (bo h31) (good_op (bo h32) (good_op (bo h33) (good_op (bo h34) (good_op (bo h35) (good_op (bo h36) good_nil)))))))))) ?_
                      refine aw_ret ?_
                      have hg := some_o hg
                      subst hg
                      exact lv_r [true] [] (by kernel_rfl)
                  · have hg := ite_f hg h35
                    refine rg (Z := Zt) 0 0 [(2, .op (.val (.d (eB true)))), (6, .op (.val (.d (eB true)))), (10, .op (.val (.d (eB true)))), (14, .op (.val (.d (eB true)))), (18, .op (.val (.d (eB true)))), (22, .op (.val (.d (eB true)))), (26, .op (.val (.d (eB true)))), (30, .op (.val (.d (eB true)))), (34, .op (.val (.d (eB false))))] [.op (some (.val (.d (eB (x3.2 == (0 : Int)))))), .op (some (.val (.d (eB (x5.2 == (0 : Int)))))), .op (some (.val (.d (eB (x7.2 == (0 : Int)))))), .op (some (.val (.d (eB (x13.2 == (0 : Int)))))), .op (some (.val (.d (eB (x15.2 == (0 : Int)))))), .op (some (.val (.d (eB (x17.2 == (0 : Int)))))), .op (some (.val (.d (eB (x19.2 == (0 : Int)))))), .op (some (.val (.d (eB (x21.2 == (2 : Int)))))), .op (some (.val (.d (eB (x23.2 == (4 : Int))))))] [(0, (.d (eB false)))] [(.var (.d (eStore x3.1))), (.var (.d (eStore x5.1))), (.var (.d (eStore x7.1))), (.var (.d (eStore x13.1))), (.var (.d (eStore x17.1))), (.var (.d (eStore x19.1))), (.var (.d (eStore x21.1))), (.var (.d (eStore x23.1))), (.var (.d (eStore x25.1)))] [] hmx (by kernel_rfl) (good_op (bo h27) (good_op (bo h28) (good_op (bo h29) (good_op (bo h30) (good_op (bo h31) (good_op (bo h32) (good_op (bo h33) (good_op (bo h34) (good_op (bo h35) good_nil))))))))) ?_
                    refine aw_ret ?_
                    have hg := some_o hg
                    subst hg
                    exact lv_r [true] [] (by kernel_rfl)
                · have hg := ite_f hg h34
                  refine rg (Z := Zt) 0 0 [(2, .op (.val (.d (eB true)))), (6, .op (.val (.d (eB true)))), (10, .op (.val (.d (eB true)))), (14, .op (.val (.d (eB true)))), (18, .op (.val (.d (eB true)))), (22, .op (.val (.d (eB true)))), (26, .op (.val (.d (eB true)))), (30, .op (.val (.d (eB false))))] [.op (some (.val (.d (eB (x3.2 == (0 : Int)))))), .op (some (.val (.d (eB (x5.2 == (0 : Int)))))), .op (some (.val (.d (eB (x7.2 == (0 : Int)))))), .op (some (.val (.d (eB (x13.2 == (0 : Int)))))), .op (some (.val (.d (eB (x15.2 == (0 : Int)))))), .op (some (.val (.d (eB (x17.2 == (0 : Int)))))), .op (some (.val (.d (eB (x19.2 == (0 : Int)))))), .op (some (.val (.d (eB (x21.2 == (2 : Int))))))] [(0, (.d (eB false)))] [(.var (.d (eStore x3.1))), (.var (.d (eStore x5.1))), (.var (.d (eStore x7.1))), (.var (.d (eStore x13.1))), (.var (.d (eStore x17.1))), (.var (.d (eStore x19.1))), (.var (.d (eStore x21.1))), (.var (.d (eStore x23.1))), (.var (.d (eStore x25.1)))] [] hmx (by kernel_rfl) (good_op (bo h27) (good_op (bo h28) (good_op (bo h29) (good_op (bo h30) (good_op (bo h31) (good_op (bo h32) (good_op (bo h33) (good_op (bo h34) good_nil)))))))) ?_
                  refine aw_ret ?_
                  have hg := some_o hg
                  subst hg
                  exact lv_r [true] [] (by kernel_rfl)
              · have hg := ite_f hg h33
                refine rg (Z := Zt) 0 0 [(2, .op (.val (.d (eB true)))), (6, .op (.val (.d (eB true)))), (10, .op (.val (.d (eB true)))), (14, .op (.val (.d (eB true)))), (18, .op (.val (.d (eB true)))), (22, .op (.val (.d (eB true)))), (26, .op (.val (.d (eB false))))] [.op (some (.val (.d (eB (x3.2 == (0 : Int)))))), .op (some (.val (.d (eB (x5.2 == (0 : Int)))))), .op (some (.val (.d (eB (x7.2 == (0 : Int)))))), .op (some (.val (.d (eB (x13.2 == (0 : Int)))))), .op (some (.val (.d (eB (x15.2 == (0 : Int)))))), .op (some (.val (.d (eB (x17.2 == (0 : Int)))))), .op (some (.val (.d (eB (x19.2 == (0 : Int))))))] [(0, (.d (eB false)))] [(.var (.d (eStore x3.1))), (.var (.d (eStore x5.1))), (.var (.d (eStore x7.1))), (.var (.d (eStore x13.1))), (.var (.d (eStore x17.1))), (.var (.d (eStore x19.1))), (.var (.d (eStore x21.1))), (.var (.d (eStore x23.1))), (.var (.d (eStore x25.1)))] [] hmx (by kernel_rfl) (good_op (bo h27) (good_op (bo h28) (good_op (bo h29) (good_op (bo h30) (good_op (bo h31) (good_op (bo h32) (good_op (bo h33) good_nil))))))) ?_
                refine aw_ret ?_
                have hg := some_o hg
                subst hg
                exact lv_r [true] [] (by kernel_rfl)
            · have hg := ite_f hg h32
              refine rg (Z := Zt) 0 0 [(2, .op (.val (.d (eB true)))), (6, .op (.val (.d (eB true)))), (10, .op (.val (.d (eB true)))), (14, .op (.val (.d (eB true)))), (18, .op (.val (.d (eB true)))), (22, .op (.val (.d (eB false))))] [.op (some (.val (.d (eB (x3.2 == (0 : Int)))))), .op (some (.val (.d (eB (x5.2 == (0 : Int)))))), .op (some (.val (.d (eB (x7.2 == (0 : Int)))))), .op (some (.val (.d (eB (x13.2 == (0 : Int)))))), .op (some (.val (.d (eB (x15.2 == (0 : Int)))))), .op (some (.val (.d (eB (x17.2 == (0 : Int))))))] [(0, (.d (eB false)))] [(.var (.d (eStore x3.1))), (.var (.d (eStore x5.1))), (.var (.d (eStore x7.1))), (.var (.d (eStore x13.1))), (.var (.d (eStore x17.1))), (.var (.d (eStore x19.1))), (.var (.d (eStore x21.1))), (.var (.d (eStore x23.1))), (.var (.d (eStore x25.1)))] [] hmx (by kernel_rfl) (good_op (bo h27) (good_op (bo h28) (good_op (bo h29) (good_op (bo h30) (good_op (bo h31) (good_op (bo h32) good_nil)))))) ?_
              refine aw_ret ?_
              have hg := some_o hg
              subst hg
              exact lv_r [true] [] (by kernel_rfl)
          · have hg := ite_f hg h31
            refine rg (Z := Zt) 0 0 [(2, .op (.val (.d (eB true)))), (6, .op (.val (.d (eB true)))), (10, .op (.val (.d (eB true)))), (14, .op (.val (.d (eB true)))), (18, .op (.val (.d (eB false))))] [.op (some (.val (.d (eB (x3.2 == (0 : Int)))))), .op (some (.val (.d (eB (x5.2 == (0 : Int)))))), .op (some (.val (.d (eB (x7.2 == (0 : Int)))))), .op (some (.val (.d (eB (x13.2 == (0 : Int)))))), .op (some (.val (.d (eB (x15.2 == (0 : Int))))))] [(0, (.d (eB false)))] [(.var (.d (eStore x3.1))), (.var (.d (eStore x5.1))), (.var (.d (eStore x7.1))), (.var (.d (eStore x13.1))), (.var (.d (eStore x17.1))), (.var (.d (eStore x19.1))), (.var (.d (eStore x21.1))), (.var (.d (eStore x23.1))), (.var (.d (eStore x25.1)))] [] hmx (by kernel_rfl) (good_op (bo h27) (good_op (bo h28) (good_op (bo h29) (good_op (bo h30) (good_op (bo h31) good_nil))))) ?_
            refine aw_ret ?_
            have hg := some_o hg
            subst hg
            exact lv_r [true] [] (by kernel_rfl)
        · have hg := ite_f hg h30
          refine rg (Z := Zt) 0 0 [(2, .op (.val (.d (eB true)))), (6, .op (.val (.d (eB true)))), (10, .op (.val (.d (eB true)))), (14, .op (.val (.d (eB false))))] [.op (some (.val (.d (eB (x3.2 == (0 : Int)))))), .op (some (.val (.d (eB (x5.2 == (0 : Int)))))), .op (some (.val (.d (eB (x7.2 == (0 : Int)))))), .op (some (.val (.d (eB (x13.2 == (0 : Int))))))] [(0, (.d (eB false)))] [(.var (.d (eStore x3.1))), (.var (.d (eStore x5.1))), (.var (.d (eStore x7.1))), (.var (.d (eStore x13.1))), (.var (.d (eStore x17.1))), (.var (.d (eStore x19.1))), (.var (.d (eStore x21.1))), (.var (.d (eStore x23.1))), (.var (.d (eStore x25.1)))] [] hmx (by kernel_rfl) (good_op (bo h27) (good_op (bo h28) (good_op (bo h29) (good_op (bo h30) good_nil)))) ?_
          refine aw_ret ?_
          have hg := some_o hg
          subst hg
          exact lv_r [true] [] (by kernel_rfl)
      · have hg := ite_f hg h29
        refine rg (Z := Zt) 0 0 [(2, .op (.val (.d (eB true)))), (6, .op (.val (.d (eB true)))), (10, .op (.val (.d (eB false))))] [.op (some (.val (.d (eB (x3.2 == (0 : Int)))))), .op (some (.val (.d (eB (x5.2 == (0 : Int)))))), .op (some (.val (.d (eB (x7.2 == (0 : Int))))))] [(0, (.d (eB false)))] [(.var (.d (eStore x3.1))), (.var (.d (eStore x5.1))), (.var (.d (eStore x7.1))), (.var (.d (eStore x13.1))), (.var (.d (eStore x17.1))), (.var (.d (eStore x19.1))), (.var (.d (eStore x21.1))), (.var (.d (eStore x23.1))), (.var (.d (eStore x25.1)))] [] hmx (by kernel_rfl) (good_op (bo h27) (good_op (bo h28) (good_op (bo h29) good_nil))) ?_
        refine aw_ret ?_
        have hg := some_o hg
        subst hg
        exact lv_r [true] [] (by kernel_rfl)
    · have hg := ite_f hg h28
      refine rg (Z := Zt) 0 0 [(2, .op (.val (.d (eB true)))), (6, .op (.val (.d (eB false))))] [.op (some (.val (.d (eB (x3.2 == (0 : Int)))))), .op (some (.val (.d (eB (x5.2 == (0 : Int))))))] [(0, (.d (eB false)))] [(.var (.d (eStore x3.1))), (.var (.d (eStore x5.1))), (.var (.d (eStore x7.1))), (.var (.d (eStore x13.1))), (.var (.d (eStore x17.1))), (.var (.d (eStore x19.1))), (.var (.d (eStore x21.1))), (.var (.d (eStore x23.1))), (.var (.d (eStore x25.1)))] [] hmx (by kernel_rfl) (good_op (bo h27) (good_op (bo h28) good_nil)) ?_
      refine aw_ret ?_
      have hg := some_o hg
      subst hg
      exact lv_r [true] [] (by kernel_rfl)
  · have hg := ite_f hg h27
    refine rg (Z := Zt) 0 0 [(2, .op (.val (.d (eB false))))] [.op (some (.val (.d (eB (x3.2 == (0 : Int))))))] [(0, (.d (eB false)))] [(.var (.d (eStore x3.1))), (.var (.d (eStore x5.1))), (.var (.d (eStore x7.1))), (.var (.d (eStore x13.1))), (.var (.d (eStore x17.1))), (.var (.d (eStore x19.1))), (.var (.d (eStore x21.1))), (.var (.d (eStore x23.1))), (.var (.d (eStore x25.1)))] [] hmx (by kernel_rfl) (good_op (bo h27) good_nil) ?_
    refine aw_ret ?_
    have hg := some_o hg
    subst hg
    exact lv_r [true] [] (by kernel_rfl)

/- law15.great -/
def law15_great_L1 (n : Nat) (l : (List Act_law15)) (v5 : Int) : Option Bool :=
  match n with
  | 0 => none
  | n + 1 => (bif (decide (v5 < (l.length : Int))) then (Chk (inR v5 l.length) (bif (decide (((gt l v5).data.length : Int) > (100 : Int))) then (some true) else (law15_great_L1 n l (wI64 (v5 + (1 : Int)))))) else (some false))
def law15_great (n : Nat) (l : (List Act_law15)) : Option Bool :=
  (bif (decide ((l.length : Int) > (40 : Int))) then (some true) else (law15_great_L1 n l (0 : Int)))
theorem t_law15_great {n : Nat} {l : (List Act_law15)} {r : Bool} (hg : law15_great n l = some r) : VF Pg 13 [(.d ((eL eAct_law15) l))] (single [(.d (eB r))]) := by
  refine fn_ok (fn := Tryz.f13) (by kernel_rfl) rfl (by kernel_rfl) (Nat.le_of_ble_eq_true (by kernel_rfl)) fun B hB => ?_
  refine aw_seq ?_
  refine rg (Z := Zt) 0 0 [] [] [(0, (.d ((eL eAct_law15) l)))] [] [] hmx (by kernel_rfl) good_nil ?_
  refine aw_seq ?_
  refine aw_seq ?_
  refine rg (Z := Zt) 0 0 [(1, .op (.val (.d (eI64 (l.length : Int)))))] [.op (xLen Pg 22 (.d ((eL eAct_law15) l)))] [(0, (.d ((eL eAct_law15) l))), (6, (.d (eB (decide ((l.length : Int) > (40 : Int))))))] [] [] hmx (by kernel_rfl) (good_op (len_d (e := 44) (by kernel_rfl)) good_nil) ?_
  rcases Bool.eq_false_or_eq_true (decide ((l.length : Int) > (40 : Int))) with h1 | h1
  · have hg := ite_t hg h1
    refine cd_t h1 (by kernel_rfl) ?_
    refine aw_seq ?_
    refine rg (Z := Zt) 0 0 [] [] [(2, (.d (eB true)))] [] [] hmx (by kernel_rfl) good_nil ?_
    refine aw_ret ?_
    have hg := some_o hg
    subst hg
    exact lv_r [true] [] (by kernel_rfl)
  · have hg := ite_f hg h1
    refine cd_f h1 (by kernel_rfl) ?_
    refine aw_skip ?_
    refine aw_seq ?_
    refine aw_seq ?_
    refine rg (Z := Zt) 0 0 [] [] [(0, (.d ((eL eAct_law15) l))), (3, (.d (eI64 (0 : Int))))] [] [] hmx (by kernel_rfl) good_nil ?_
    refine aw_block ?_
    refine aw_loop (fun μ σ => ∃ (v5 : Int), μ ≤ n ∧ law15_great_L1 μ l v5 = some r ∧ Wk B σ (st Tryz.f13.ntmps [(0, (.d ((eL eAct_law15) l))), (3, (.d (eI64 v5)))] [] [])) n ⟨(0 : Int), Nat.le_refl _, hg, (Wk.refl _)⟩ ?_
    rintro μ σ ⟨v5, hle, hg, hwk⟩
    refine aw_wk hwk ?_
    clear hwk
    cases μ with
    | zero => exact absurd (show none = some r from hg) (by simp)
    | succ n =>
      refine aw_seq ?_
      refine aw_seq ?_
      refine rg (Z := Zt) 0 0 [(2, .op (.val (.d (eI64 (l.length : Int)))))] [.op (xLen Pg 22 (.d ((eL eAct_law15) l)))] [(0, (.d ((eL eAct_law15) l))), (3, (.d (eI64 v5))), (10, (.d (eB (decide (v5 < (l.length : Int))))))] [] [] hmx (by kernel_rfl) (good_op (len_d (e := 44) (by kernel_rfl)) good_nil) ?_
      rcases Bool.eq_false_or_eq_true (decide (v5 < (l.length : Int))) with h9 | h9
      · have hg := ite_t hg h9
        refine cd_t h9 (by kernel_rfl) ?_
        refine aw_skip ?_
        refine aw_seq ?_
        refine aw_block ?_
        refine aw_seq ?_
        obtain ⟨h10, hg⟩ := chk_o hg
        refine rg (Z := Zt) 0 0 [(2, .op (.val (.kp (eAct_law15 (gt l v5)))))] [.op (xIdA Pg 22 (.d ((eL eAct_law15) l)) (.d (eI64 v5)))] [(0, (.d ((eL eAct_law15) l))), (3, (.d (eI64 v5))), (19, (.d (eB (decide (((gt l v5).data.length : Int) > (100 : Int))))))] [] [] hmx (by kernel_rfl) (good_op (idx_d (s := 12) (b := true) (by_ := 88) (by kernel_rfl) (fun _ => rfl) h10) good_nil) ?_
        rcases Bool.eq_false_or_eq_true (decide (((gt l v5).data.length : Int) > (100 : Int))) with h11 | h11
        · have hg := ite_t hg h11
          refine cd_t h11 (by kernel_rfl) ?_
          refine aw_seq ?_
          refine rg (Z := Zt) 0 0 [] [] [(2, (.d (eB true)))] [] [] hmx (by kernel_rfl) good_nil ?_
          refine aw_ret ?_
          have hg := some_o hg
          subst hg
          exact lv_r [true] [] (by kernel_rfl)
        · have hg := ite_f hg h11
          refine cd_f h11 (by kernel_rfl) ?_
          refine aw_skip ?_
          refine rg (Z := Zt) 0 0 [] [] [(0, (.d ((eL eAct_law15) l))), (3, (.d (eI64 (wI64 (v5 + (1 : Int))))))] [] [] hmx (by kernel_rfl) good_nil ?_
          exact ⟨n, by omega, (wI64 (v5 + (1 : Int))), by omega, hg, (Wk.refl _)⟩
      · have hg := ite_f hg h9
        refine cd_f h9 (by kernel_rfl) ?_
        refine aw_exit ?_
        refine aw_seq ?_
        refine rg (Z := Zt) 0 0 [] [] [(2, (.d (eB false)))] [] [] hmx (by kernel_rfl) good_nil ?_
        refine aw_ret ?_
        have hg := some_o hg
        subst hg
        exact lv_r [true] [] (by kernel_rfl)

/- ref04.Arm -/
def ref04_Arm (d : Disk) (n_ : Int) : Disk :=
  (Disk.mk d.sure d.cache (mx2 n_ (0 : Int)) d.dead)
theorem t_ref04_Arm {d : Disk} {n_ : Int} {r : Disk} (hg : ref04_Arm d n_ = r) : VF Pg 15 [(.d (eDisk d)), (.d (eI64 n_))] (single [(.d (eDisk r))]) := by
  refine fn_ok (fn := Tryz.f15) (by kernel_rfl) rfl (by kernel_rfl) (Nat.le_of_ble_eq_true (by kernel_rfl)) fun B hB => ?_
  refine aw_seq ?_
  refine rg (Z := Zt) 2 0 [] [] [(1, (.d (eI64 n_))), (2, (.ptr 0 0)), (4, (.ptr 1 0))] [(.var (.d (eDisk d))), (.var (.agg [(.full (([] : (List Str)).map eS)), (.full (([] : (List Write)).map eWrite)), (.d (eI64 (0 : Int))), (.d (eB false))]))] [] hmx (by kernel_rfl) good_nil ?_
  refine aw_seq ?_
  refine rg (Z := Zt) 0 0 [] [] [(2, (.ptr 0 0)), (4, (.ptr 1 0))] [(.var (.d (eDisk (Disk.mk d.sure d.cache (mx2 n_ (0 : Int)) d.dead)))), (.var (.agg [(.full (([] : (List Str)).map eS)), (.full (([] : (List Write)).map eWrite)), (.d (eI64 (0 : Int))), (.d (eB false))]))] [] hmx (by kernel_rfl) good_nil ?_
  refine aw_seq ?_
  refine rg (Z := Zt) 0 0 [] [] [(4, (.ptr 1 0))] [(.var (.d (eDisk (Disk.mk d.sure d.cache (mx2 n_ (0 : Int)) d.dead)))), (.var (.d (eDisk (Disk.mk d.sure d.cache (mx2 n_ (0 : Int)) d.dead))))] [] hmx (by kernel_rfl) good_nil ?_
  refine aw_ret ?_
  subst hg
  exact lv_r [true] [] (by kernel_rfl)

/- law15.do -/
def law15_do (n : Nat) (s : Store) (a : Act_law15) : Option (Store × Str × Int) :=
  (bif (a.kind == (0 : Int)) then (Bnd (store_Mark n s a.block) fun x2 => (some (x2.1, ([] : Str), x2.2))) else (bif (a.kind == (1 : Int)) then (Bnd (store_Wipe n s a.block) fun x5 => (some (x5.1, ([] : Str), x5.2))) else (bif (a.kind == (2 : Int)) then (Bnd (store_Join n s a.mask) fun x8 => (some (x8.1, ([] : Str), x8.2))) else (bif (a.kind == (3 : Int)) then (Bnd (store_Put n s a.block a.data) fun x11 => (some (x11.1, ([] : Str), x11.2))) else (bif (a.kind == (4 : Int)) then (Bnd (store_Commit n s a.super) fun x14 => (some (x14.1, ([] : Str), x14.2))) else (Bnd (store_Read s a.block) fun x16 => (some (s, x16.1, x16.2))))))))
theorem t_law15_do {n : Nat} {s : Store} {a : Act_law15} {r : (Store × Str × Int)} (hg : law15_do n s a = some r) : VF Pg 16 [(.d (eStore s)), (.d (eAct_law15 a))] (single [(.d (eStore r.1)), (.d (eS r.2.1)), (.d (eI64 r.2.2))]) := by
  refine fn_ok (fn := Tryz.f16) (by kernel_rfl) rfl (by kernel_rfl) (Nat.le_of_ble_eq_true (by kernel_rfl)) fun B hB => ?_
  refine aw_seq ?_
  refine rg (Z := Zt) 3 0 [] [] [(2, (.ptr 0 0)), (3, (.ptr 1 0)), (4, (.ptr 2 0))] [(.var (.d (eStore s))), (.var (.d (eAct_law15 a))), (.var (.agg [(.agg [(.full (([] : (List Str)).map eS)), (.full (([] : (List Write)).map eWrite)), (.d (eI64 (0 : Int))), (.d (eB false))]), (.agg [(.d (eI64 (0 : Int))), (.agg [(.d (eU64 (0 : Int))), (.d (eU64 (0 : Int))), (.agg [(.d (eU64 (0 : Int))), (.d (eU64 (0 : Int)))])]), (.d (eB false)), (.d (eB false)), (.d (eB false))]), (.d (eU32 (0 : Int)))]))] [] hmx (by kernel_rfl) good_nil ?_
  refine aw_seq ?_
  refine rg (Z := Zt) 0 0 [] [] [(2, (.ptr 0 0)), (3, (.ptr 1 0)), (4, (.ptr 2 0)), (7, (.d (eS ([] : Str))))] [(.var (.d (eStore s))), (.var (.d (eAct_law15 a))), (.var (.agg [(.agg [(.full (([] : (List Str)).map eS)), (.full (([] : (List Write)).map eWrite)), (.d (eI64 (0 : Int))), (.d (eB false))]), (.agg [(.d (eI64 (0 : Int))), (.agg [(.d (eU64 (0 : Int))), (.d (eU64 (0 : Int))), (.agg [(.d (eU64 (0 : Int))), (.d (eU64 (0 : Int)))])]), (.d (eB false)), (.d (eB false)), (.d (eB false))]), (.d (eU32 (0 : Int)))]))] [] hmx (by kernel_rfl) good_nil ?_
  refine aw_seq ?_
  refine rg (Z := Zt) 0 0 [] [] [(2, (.ptr 0 0)), (3, (.ptr 1 0)), (4, (.ptr 2 0)), (7, (.d (eS ([] : Str))))] [(.var (.d (eStore s))), (.var (.d (eAct_law15 a))), (.var (.agg [(.agg [(.full (([] : (List Str)).map eS)), (.full (([] : (List Write)).map eWrite)), (.d (eI64 (0 : Int))), (.d (eB false))]), (.agg [(.d (eI64 (0 : Int))), (.agg [(.d (eU64 (0 : Int))), (.d (eU64 (0 : Int))), (.agg [(.d (eU64 (0 : Int))), (.d (eU64 (0 : Int)))])]), (.d (eB false)), (.d (eB false)), (.d (eB false))]), (.d (eU32 (0 : Int)))]))] [] hmx (by kernel_rfl) good_nil ?_
  refine aw_seq ?_
  refine aw_seq ?_
  refine rg (Z := Zt) 0 0 [] [] [(2, (.ptr 0 0)), (3, (.ptr 1 0)), (4, (.ptr 2 0)), (7, (.d (eS ([] : Str)))), (10, (.d (eI64 a.kind)))] [(.var (.d (eStore s))), (.var (.d (eAct_law15 a))), (.var (.agg [(.agg [(.full (([] : (List Str)).map eS)), (.full (([] : (List Write)).map eWrite)), (.d (eI64 (0 : Int))), (.d (eB false))]), (.agg [(.d (eI64 (0 : Int))), (.agg [(.d (eU64 (0 : Int))), (.d (eU64 (0 : Int))), (.agg [(.d (eU64 (0 : Int))), (.d (eU64 (0 : Int)))])]), (.d (eB false)), (.d (eB false)), (.d (eB false))]), (.d (eU32 (0 : Int)))]))] [] hmx (by kernel_rfl) good_nil ?_
  refine aw_block ?_
  refine aw_seq ?_
  refine rg (Z := Zt) 0 0 [] [] [(2, (.ptr 0 0)), (3, (.ptr 1 0)), (4, (.ptr 2 0)), (7, (.d (eS ([] : Str)))), (10, (.d (eI64 a.kind))), (18, (.d (eB (a.kind == (0 : Int)))))] [(.var (.d (eStore s))), (.var (.d (eAct_law15 a))), (.var (.agg [(.agg [(.full (([] : (List Str)).map eS)), (.full (([] : (List Write)).map eWrite)), (.d (eI64 (0 : Int))), (.d (eB false))]), (.agg [(.d (eI64 (0 : Int))), (.agg [(.d (eU64 (0 : Int))), (.d (eU64 (0 : Int))), (.agg [(.d (eU64 (0 : Int))), (.d (eU64 (0 : Int)))])]), (.d (eB false)), (.d (eB false)), (.d (eB false))]), (.d (eU32 (0 : Int)))]))] [] hmx (by kernel_rfl) good_nil ?_
  rcases Bool.eq_false_or_eq_true (a.kind == (0 : Int)) with h1 | h1
  · have hg := ite_t hg h1
    refine cd_t h1 (by kernel_rfl) ?_
    obtain ⟨x2, h3, hg⟩ := bnd_o hg
    refine rg (Z := Zt) 0 0 [(3, .vf (.tup [(.d (eStore x2.1)), (.d (eI64 x2.2))]))] [.vf 19 [(.d (eStore s)), (.d (eI64 a.block))]] [(2, (.ptr 0 0)), (4, (.ptr 2 0)), (7, (.d (eS ([] : Str)))), (8, (.d (eI64 x2.2)))] [(.var (.d (eStore x2.1))), (.var (.d (eAct_law15 a))), (.var (.agg [(.agg [(.full (([] : (List Str)).map eS)), (.full (([] : (List Write)).map eWrite)), (.d (eI64 (0 : Int))), (.d (eB false))]), (.agg [(.d (eI64 (0 : Int))), (.agg [(.d (eU64 (0 : Int))), (.d (eU64 (0 : Int))), (.agg [(.d (eU64 (0 : Int))), (.d (eU64 (0 : Int)))])]), (.d (eB false)), (.d (eB false)), (.d (eB false))]), (.d (eU32 (0 : Int)))]))] [] hmx (by kernel_rfl) (good_vf (t_store_Mark h3) rfl rfl good_nil) ?_
    refine aw_seq ?_
    refine rg (Z := Zt) 0 0 [] [] [(4, (.ptr 2 0)), (5, (.d (eS ([] : Str)))), (6, (.d (eI64 x2.2)))] [(.var (.d (eStore x2.1))), (.var (.d (eAct_law15 a))), (.var (.d (eStore x2.1)))] [] hmx (by kernel_rfl) good_nil ?_
    refine aw_ret ?_
    have hg := some_o hg
    subst hg
    exact lv_r [true, true, true] [] (by kernel_rfl)
  · have hg := ite_f hg h1
    refine cd_f h1 (by kernel_rfl) ?_
    refine aw_seq ?_
    refine rg (Z := Zt) 0 0 [] [] [(2, (.ptr 0 0)), (3, (.ptr 1 0)), (4, (.ptr 2 0)), (7, (.d (eS ([] : Str)))), (10, (.d (eI64 a.kind))), (27, (.d (eB (a.kind == (1 : Int)))))] [(.var (.d (eStore s))), (.var (.d (eAct_law15 a))), (.var (.agg [(.agg [(.full (([] : (List Str)).map eS)), (.full (([] : (List Write)).map eWrite)), (.d (eI64 (0 : Int))), (.d (eB false))]), (.agg [(.d (eI64 (0 : Int))), (.agg [(.d (eU64 (0 : Int))), (.d (eU64 (0 : Int))), (.agg [(.d (eU64 (0 : Int))), (.d (eU64 (0 : Int)))])]), (.d (eB false)), (.d (eB false)), (.d (eB false))]), (.d (eU32 (0 : Int)))]))] [] hmx (by kernel_rfl) good_nil ?_
    rcases Bool.eq_false_or_eq_true (a.kind == (1 : Int)) with h4 | h4
    · have hg := ite_t hg h4
      refine cd_t h4 (by kernel_rfl) ?_
      obtain ⟨x5, h6, hg⟩ := bnd_o hg
      refine rg (Z := Zt) 0 0 [(3, .vf (.tup [(.d (eStore x5.1)), (.d (eI64 x5.2))]))] [.vf 20 [(.d (eStore s)), (.d (eI64 a.block))]] [(2, (.ptr 0 0)), (4, (.ptr 2 0)), (7, (.d (eS ([] : Str)))), (8, (.d (eI64 x5.2)))] [(.var (.d (eStore x5.1))), (.var (.d (eAct_law15 a))), (.var (.agg [(.agg [(.full (([] : (List Str)).map eS)), (.full (([] : (List Write)).map eWrite)), (.d (eI64 (0 : Int))), (.d (eB false))]), (.agg [(.d (eI64 (0 : Int))), (.agg [(.d (eU64 (0 : Int))), (.d (eU64 (0 : Int))), (.agg [(.d (eU64 (0 : Int))), (.d (eU64 (0 : Int)))])]), (.d (eB false)), (.d (eB false)), (.d (eB false))]), (.d (eU32 (0 : Int)))]))] [] hmx (by kernel_rfl) (good_vf (t_store_Wipe h6) rfl rfl good_nil) ?_
      refine aw_seq ?_
      refine rg (Z := Zt) 0 0 [] [] [(4, (.ptr 2 0)), (5, (.d (eS ([] : Str)))), (6, (.d (eI64 x5.2)))] [(.var (.d (eStore x5.1))), (.var (.d (eAct_law15 a))), (.var (.d (eStore x5.1)))] [] hmx (by kernel_rfl) good_nil ?_
      refine aw_ret ?_
      have hg := some_o hg
      subst hg
      exact lv_r [true, true, true] [] (by kernel_rfl)
    · have hg := ite_f hg h4
      refine cd_f h4 (by kernel_rfl) ?_
      refine aw_seq ?_
      refine rg (Z := Zt) 0 0 [] [] [(2, (.ptr 0 0)), (3, (.ptr 1 0)), (4, (.ptr 2 0)), (7, (.d (eS ([] : Str)))), (10, (.d (eI64 a.kind))), (36, (.d (eB (a.kind == (2 : Int)))))] [(.var (.d (eStore s))), (.var (.d (eAct_law15 a))), (.var (.agg [(.agg [(.full (([] : (List Str)).map eS)), (.full (([] : (List Write)).map eWrite)), (.d (eI64 (0 : Int))), (.d (eB false))]), (.agg [(.d (eI64 (0 : Int))), (.agg [(.d (eU64 (0 : Int))), (.d (eU64 (0 : Int))), (.agg [(.d (eU64 (0 : Int))), (.d (eU64 (0 : Int)))])]), (.d (eB false)), (.d (eB false)), (.d (eB false))]), (.d (eU32 (0 : Int)))]))] [] hmx (by kernel_rfl) good_nil ?_
      rcases Bool.eq_false_or_eq_true (a.kind == (2 : Int)) with h7 | h7
      · have hg := ite_t hg h7
        refine cd_t h7 (by kernel_rfl) ?_
        obtain ⟨x8, h9, hg⟩ := bnd_o hg
        refine rg (Z := Zt) 0 0 [(3, .vf (.tup [(.d (eStore x8.1)), (.d (eI64 x8.2))]))] [.vf 60 [(.d (eStore s)), (.d (eU32 a.mask))]] [(2, (.ptr 0 0)), (4, (.ptr 2 0)), (7, (.d (eS ([] : Str)))), (8, (.d (eI64 x8.2)))] [(.var (.d (eStore x8.1))), (.var (.d (eAct_law15 a))), (.var (.agg [(.agg [(.full (([] : (List Str)).map eS)), (.full (([] : (List Write)).map eWrite)), (.d (eI64 (0 : Int))), (.d (eB false))]), (.agg [(.d (eI64 (0 : Int))), (.agg [(.d (eU64 (0 : Int))), (.d (eU64 (0 : Int))), (.agg [(.d (eU64 (0 : Int))), (.d (eU64 (0 : Int)))])]), (.d (eB false)), (.d (eB false)), (.d (eB false))]), (.d (eU32 (0 : Int)))]))] [] hmx (by kernel_rfl) (good_vf (t_store_Join h9) rfl rfl good_nil) ?_
        refine aw_seq ?_
        refine rg (Z := Zt) 0 0 [] [] [(4, (.ptr 2 0)), (5, (.d (eS ([] : Str)))), (6, (.d (eI64 x8.2)))] [(.var (.d (eStore x8.1))), (.var (.d (eAct_law15 a))), (.var (.d (eStore x8.1)))] [] hmx (by kernel_rfl) good_nil ?_
        refine aw_ret ?_
        have hg := some_o hg
        subst hg
        exact lv_r [true, true, true] [] (by kernel_rfl)
      · have hg := ite_f hg h7
        refine cd_f h7 (by kernel_rfl) ?_
        refine aw_seq ?_
        refine rg (Z := Zt) 0 0 [] [] [(2, (.ptr 0 0)), (3, (.ptr 1 0)), (4, (.ptr 2 0)), (7, (.d (eS ([] : Str)))), (10, (.d (eI64 a.kind))), (45, (.d (eB (a.kind == (3 : Int)))))] [(.var (.d (eStore s))), (.var (.d (eAct_law15 a))), (.var (.agg [(.agg [(.full (([] : (List Str)).map eS)), (.full (([] : (List Write)).map eWrite)), (.d (eI64 (0 : Int))), (.d (eB false))]), (.agg [(.d (eI64 (0 : Int))), (.agg [(.d (eU64 (0 : Int))), (.d (eU64 (0 : Int))), (.agg [(.d (eU64 (0 : Int))), (.d (eU64 (0 : Int)))])]), (.d (eB false)), (.d (eB false)), (.d (eB false))]), (.d (eU32 (0 : Int)))]))] [] hmx (by kernel_rfl) good_nil ?_
        rcases Bool.eq_false_or_eq_true (a.kind == (3 : Int)) with h10 | h10
        · have hg := ite_t hg h10
          refine cd_t h10 (by kernel_rfl) ?_
          obtain ⟨x11, h12, hg⟩ := bnd_o hg
          refine rg (Z := Zt) 0 0 [(5, .vf (.tup [(.d (eStore x11.1)), (.d (eI64 x11.2))]))] [.vf 57 [(.d (eStore s)), (.d (eI64 a.block)), (.d (eS a.data))]] [(2, (.ptr 0 0)), (4, (.ptr 2 0)), (7, (.d (eS ([] : Str)))), (8, (.d (eI64 x11.2)))] [(.var (.d (eStore x11.1))), (.var (.d (eAct_law15 a))), (.var (.agg [(.agg [(.full (([] : (List Str)).map eS)), (.full (([] : (List Write)).map eWrite)), (.d (eI64 (0 : Int))), (.d (eB false))]), (.agg [(.d (eI64 (0 : Int))), (.agg [(.d (eU64 (0 : Int))), (.d (eU64 (0 : Int))), (.agg [(.d (eU64 (0 : Int))), (.d (eU64 (0 : Int)))])]), (.d (eB false)), (.d (eB false)), (.d (eB false))]), (.d (eU32 (0 : Int)))]))] [] hmx (by kernel_rfl) (good_vf (t_store_Put h12) rfl rfl good_nil) ?_
          refine aw_seq ?_
          refine rg (Z := Zt) 0 0 [] [] [(4, (.ptr 2 0)), (5, (.d (eS ([] : Str)))), (6, (.d (eI64 x11.2)))] [(.var (.d (eStore x11.1))), (.var (.d (eAct_law15 a))), (.var (.d (eStore x11.1)))] [] hmx (by kernel_rfl) good_nil ?_
          refine aw_ret ?_
          have hg := some_o hg
          subst hg
          exact lv_r [true, true, true] [] (by kernel_rfl)
        · have hg := ite_f hg h10
          refine cd_f h10 (by kernel_rfl) ?_
          refine aw_seq ?_
          refine rg (Z := Zt) 0 0 [] [] [(2, (.ptr 0 0)), (3, (.ptr 1 0)), (4, (.ptr 2 0)), (7, (.d (eS ([] : Str)))), (56, (.d (eB (a.kind == (4 : Int)))))] [(.var (.d (eStore s))), (.var (.d (eAct_law15 a))), (.var (.agg [(.agg [(.full (([] : (List Str)).map eS)), (.full (([] : (List Write)).map eWrite)), (.d (eI64 (0 : Int))), (.d (eB false))]), (.agg [(.d (eI64 (0 : Int))), (.agg [(.d (eU64 (0 : Int))), (.d (eU64 (0 : Int))), (.agg [(.d (eU64 (0 : Int))), (.d (eU64 (0 : Int)))])]), (.d (eB false)), (.d (eB false)), (.d (eB false))]), (.d (eU32 (0 : Int)))]))] [] hmx (by kernel_rfl) good_nil ?_
          rcases Bool.eq_false_or_eq_true (a.kind == (4 : Int)) with h13 | h13
          · have hg := ite_t hg h13
            refine cd_t h13 (by kernel_rfl) ?_
            obtain ⟨x14, h15, hg⟩ := bnd_o hg
            refine rg (Z := Zt) 0 0 [(3, .vf (.tup [(.d (eStore x14.1)), (.d (eI64 x14.2))]))] [.vf 59 [(.d (eStore s)), (.d (eSuper a.super))]] [(2, (.ptr 0 0)), (4, (.ptr 2 0)), (7, (.d (eS ([] : Str)))), (8, (.d (eI64 x14.2)))] [(.var (.d (eStore x14.1))), (.var (.d (eAct_law15 a))), (.var (.agg [(.agg [(.full (([] : (List Str)).map eS)), (.full (([] : (List Write)).map eWrite)), (.d (eI64 (0 : Int))), (.d (eB false))]), (.agg [(.d (eI64 (0 : Int))), (.agg [(.d (eU64 (0 : Int))), (.d (eU64 (0 : Int))), (.agg [(.d (eU64 (0 : Int))), (.d (eU64 (0 : Int)))])]), (.d (eB false)), (.d (eB false)), (.d (eB false))]), (.d (eU32 (0 : Int)))]))] [] hmx (by kernel_rfl) (good_vf (t_store_Commit h15) rfl rfl good_nil) ?_
            refine aw_seq ?_
            refine rg (Z := Zt) 0 0 [] [] [(4, (.ptr 2 0)), (5, (.d (eS ([] : Str)))), (6, (.d (eI64 x14.2)))] [(.var (.d (eStore x14.1))), (.var (.d (eAct_law15 a))), (.var (.d (eStore x14.1)))] [] hmx (by kernel_rfl) good_nil ?_
            refine aw_ret ?_
            have hg := some_o hg
            subst hg
            exact lv_r [true, true, true] [] (by kernel_rfl)
          · have hg := ite_f hg h13
            refine cd_f h13 (by kernel_rfl) ?_
            obtain ⟨x16, h17, hg⟩ := bnd_o hg
            refine rg (Z := Zt) 0 0 [(3, .vf (.tup [(.d (eS x16.1)), (.d (eI64 x16.2))]))] [.vf 58 [(.d (eStore s)), (.d (eI64 a.block))]] [(2, (.ptr 0 0)), (4, (.ptr 2 0)), (7, (.d (eS x16.1))), (8, (.d (eI64 x16.2)))] [(.var (.d (eStore s))), (.var (.d (eAct_law15 a))), (.var (.agg [(.agg [(.full (([] : (List Str)).map eS)), (.full (([] : (List Write)).map eWrite)), (.d (eI64 (0 : Int))), (.d (eB false))]), (.agg [(.d (eI64 (0 : Int))), (.agg [(.d (eU64 (0 : Int))), (.d (eU64 (0 : Int))), (.agg [(.d (eU64 (0 : Int))), (.d (eU64 (0 : Int)))])]), (.d (eB false)), (.d (eB false)), (.d (eB false))]), (.d (eU32 (0 : Int)))]))] [] hmx (by kernel_rfl) (good_vf (t_store_Read h17) rfl rfl good_nil) ?_
            refine aw_seq ?_
            refine rg (Z := Zt) 0 0 [] [] [(4, (.ptr 2 0)), (5, (.d (eS x16.1))), (6, (.d (eI64 x16.2)))] [(.var (.d (eStore s))), (.var (.d (eAct_law15 a))), (.var (.d (eStore s)))] [] hmx (by kernel_rfl) good_nil ?_
            refine aw_ret ?_
            have hg := some_o hg
            subst hg
            exact lv_r [true, true, true] [] (by kernel_rfl)

/- ref04.burn -/
def ref04_burn (d : Disk) : Disk :=
  (bif (d.fuse == (1 : Int)) then (bif (decide (d.fuse > (0 : Int))) then (Disk.mk d.sure d.cache (wI64 (d.fuse - (1 : Int))) true) else (Disk.mk d.sure d.cache d.fuse true)) else (bif (decide (d.fuse > (0 : Int))) then (Disk.mk d.sure d.cache (wI64 (d.fuse - (1 : Int))) d.dead) else d))
theorem t_ref04_burn {d : Disk} {r : Disk} (hg : ref04_burn d = r) : VF Pg 263 [(.d (eDisk d))] (single [(.d (eDisk r))]) := by
  refine fn_ok (fn := Tryz.f263) (by kernel_rfl) rfl (by kernel_rfl) (Nat.le_of_ble_eq_true (by kernel_rfl)) fun B hB => ?_
  refine aw_seq ?_
  refine rg (Z := Zt) 2 0 [] [] [(1, (.ptr 0 0)), (2, (.ptr 1 0))] [(.var (.d (eDisk d))), (.var (.agg [(.full (([] : (List Str)).map eS)), (.full (([] : (List Write)).map eWrite)), (.d (eI64 (0 : Int))), (.d (eB false))]))] [] hmx (by kernel_rfl) good_nil ?_
  refine aw_seq ?_
  refine aw_seq ?_
  refine rg (Z := Zt) 0 0 [] [] [(1, (.ptr 0 0)), (2, (.ptr 1 0)), (5, (.d (eB (d.fuse == (1 : Int)))))] [(.var (.d (eDisk d))), (.var (.agg [(.full (([] : (List Str)).map eS)), (.full (([] : (List Write)).map eWrite)), (.d (eI64 (0 : Int))), (.d (eB false))]))] [] hmx (by kernel_rfl) good_nil ?_
  rcases Bool.eq_false_or_eq_true (d.fuse == (1 : Int)) with h1 | h1
  · have hg := ite_t hg h1
    refine cd_t h1 (by kernel_rfl) ?_
    refine rg (Z := Zt) 0 0 [] [] [(1, (.ptr 0 0)), (2, (.ptr 1 0))] [(.var (.d (eDisk (Disk.mk d.sure d.cache d.fuse true)))), (.var (.agg [(.full (([] : (List Str)).map eS)), (.full (([] : (List Write)).map eWrite)), (.d (eI64 (0 : Int))), (.d (eB false))]))] [] hmx (by kernel_rfl) good_nil ?_
    refine aw_seq ?_
    refine aw_seq ?_
    refine rg (Z := Zt) 0 0 [] [] [(1, (.ptr 0 0)), (2, (.ptr 1 0)), (9, (.d (eB (decide (d.fuse > (0 : Int))))))] [(.var (.d (eDisk (Disk.mk d.sure d.cache d.fuse true)))), (.var (.agg [(.full (([] : (List Str)).map eS)), (.full (([] : (List Write)).map eWrite)), (.d (eI64 (0 : Int))), (.d (eB false))]))] [] hmx (by kernel_rfl) good_nil ?_
    rcases Bool.eq_false_or_eq_true (decide (d.fuse > (0 : Int))) with h2 | h2
    · have hg := ite_t hg h2
      refine cd_t h2 (by kernel_rfl) ?_
      refine rg (Z := Zt) 0 0 [] [] [(1, (.ptr 0 0)), (2, (.ptr 1 0))] [(.var (.d (eDisk (Disk.mk d.sure d.cache (wI64 (d.fuse - (1 : Int))) true)))), (.var (.agg [(.full (([] : (List Str)).map eS)), (.full (([] : (List Write)).map eWrite)), (.d (eI64 (0 : Int))), (.d (eB false))]))] [] hmx (by kernel_rfl) good_nil ?_
      refine aw_seq ?_
      refine rg (Z := Zt) 0 0 [] [] [(2, (.ptr 1 0))] [(.var (.d (eDisk (Disk.mk d.sure d.cache (wI64 (d.fuse - (1 : Int))) true)))), (.var (.d (eDisk (Disk.mk d.sure d.cache (wI64 (d.fuse - (1 : Int))) true))))] [] hmx (by kernel_rfl) good_nil ?_
      refine aw_ret ?_
      subst hg
      exact lv_r [true] [] (by kernel_rfl)
    · have hg := ite_f hg h2
      refine cd_f h2 (by kernel_rfl) ?_
      refine aw_skip ?_
      refine aw_seq ?_
      refine rg (Z := Zt) 0 0 [] [] [(2, (.ptr 1 0))] [(.var (.d (eDisk (Disk.mk d.sure d.cache d.fuse true)))), (.var (.d (eDisk (Disk.mk d.sure d.cache d.fuse true))))] [] hmx (by kernel_rfl) good_nil ?_
      refine aw_ret ?_
      subst hg
      exact lv_r [true] [] (by kernel_rfl)
  · have hg := ite_f hg h1
    refine cd_f h1 (by kernel_rfl) ?_
    refine aw_skip ?_
    refine aw_seq ?_
    refine aw_seq ?_
    refine rg (Z := Zt) 0 0 [] [] [(1, (.ptr 0 0)), (2, (.ptr 1 0)), (9, (.d (eB (decide (d.fuse > (0 : Int))))))] [(.var (.d (eDisk d))), (.var (.agg [(.full (([] : (List Str)).map eS)), (.full (([] : (List Write)).map eWrite)), (.d (eI64 (0 : Int))), (.d (eB false))]))] [] hmx (by kernel_rfl) good_nil ?_
    rcases Bool.eq_false_or_eq_true (decide (d.fuse > (0 : Int))) with h3 | h3
    · have hg := ite_t hg h3
      refine cd_t h3 (by kernel_rfl) ?_
      refine rg (Z := Zt) 0 0 [] [] [(1, (.ptr 0 0)), (2, (.ptr 1 0))] [(.var (.d (eDisk (Disk.mk d.sure d.cache (wI64 (d.fuse - (1 : Int))) d.dead)))), (.var (.agg [(.full (([] : (List Str)).map eS)), (.full (([] : (List Write)).map eWrite)), (.d (eI64 (0 : Int))), (.d (eB false))]))] [] hmx (by kernel_rfl) good_nil ?_
      refine aw_seq ?_
      refine rg (Z := Zt) 0 0 [] [] [(2, (.ptr 1 0))] [(.var (.d (eDisk (Disk.mk d.sure d.cache (wI64 (d.fuse - (1 : Int))) d.dead)))), (.var (.d (eDisk (Disk.mk d.sure d.cache (wI64 (d.fuse - (1 : Int))) d.dead))))] [] hmx (by kernel_rfl) good_nil ?_
      refine aw_ret ?_
      subst hg
      exact lv_r [true] [] (by kernel_rfl)
    · have hg := ite_f hg h3
      refine cd_f h3 (by kernel_rfl) ?_
      refine aw_skip ?_
      refine aw_seq ?_
      refine rg (Z := Zt) 0 0 [] [] [(2, (.ptr 1 0))] [(.var (.d (eDisk d))), (.var (.d (eDisk d)))] [] hmx (by kernel_rfl) good_nil ?_
      refine aw_ret ?_
      subst hg
      exact lv_r [true] [] (by kernel_rfl)

/- ref04.Write -/
def ref04_Write (d : Disk) (i : Int) (data : Str) : Option (Disk × Int) :=
  (bif d.dead then (some (d, (6 : Int))) else (bif (decide (i < (0 : Int))) then (some (d, (4 : Int))) else (bif (decide (i ≥ (d.sure.length : Int))) then (some (d, (4 : Int))) else (bif (decide ((data.length : Int) > (64 : Int))) then (some (d, (5 : Int))) else (Let (ref04_burn d) fun x5 => (bif x5.dead then (some (x5, (6 : Int))) else (Chk (appOK 0 x5.cache.length 24) (Chk (appOK x5.cache.length 1 24) (some ((Disk.mk x5.sure (x5.cache ++ ([(Write.mk i data)] : (List Write))) x5.fuse x5.dead), (0 : Int)))))))))))
theorem t_ref04_Write {d : Disk} {i : Int} {data : Str} {r : (Disk × Int)} (hg : ref04_Write d i data = some r) : VF Pg 200 [(.d (eDisk d)), (.d (eI64 i)), (.d (eS data))] (single [(.d (eDisk r.1)), (.d (eI64 r.2))]) := by
  refine fn_ok (fn := Tryz.f200) (by kernel_rfl) rfl (by kernel_rfl) (Nat.le_of_ble_eq_true (by kernel_rfl)) fun B hB => ?_
  refine aw_seq ?_
  refine rg (Z := Zt) 2 0 [] [] [(1, (.d (eI64 i))), (2, (.d (eS data))), (3, (.ptr 0 0)), (6, (.ptr 1 0))] [(.var (.d (eDisk d))), (.var (.agg [(.full (([] : (List Str)).map eS)), (.full (([] : (List Write)).map eWrite)), (.d (eI64 (0 : Int))), (.d (eB false))]))] [] hmx (by kernel_rfl) good_nil ?_
  refine aw_seq ?_
  refine aw_block ?_
  refine aw_seq ?_
  refine rg (Z := Zt) 0 0 [] [] [(1, (.d (eI64 i))), (2, (.d (eS data))), (3, (.ptr 0 0)), (6, (.ptr 1 0)), (8, (.d (eB d.dead)))] [(.var (.d (eDisk d))), (.var (.agg [(.full (([] : (List Str)).map eS)), (.full (([] : (List Write)).map eWrite)), (.d (eI64 (0 : Int))), (.d (eB false))]))] [] hmx (by kernel_rfl) good_nil ?_
  rcases Bool.eq_false_or_eq_true d.dead with h1 | h1
  · have hg := ite_t hg h1
    refine cd_t h1 (by kernel_rfl) ?_
    refine aw_seq ?_
    refine rg (Z := Zt) 0 0 [] [] [(6, (.ptr 1 0)), (7, (.d (eI64 (6 : Int))))] [(.var (.d (eDisk d))), (.var (.d (eDisk d)))] [] hmx (by kernel_rfl) good_nil ?_
    refine aw_ret ?_
    have hg := some_o hg
    subst hg
    exact lv_r [true, true] [] (by kernel_rfl)
  · have hg := ite_f hg h1
    refine cd_f h1 (by kernel_rfl) ?_
    refine aw_seq ?_
    rcases Bool.eq_false_or_eq_true (decide (i < (0 : Int))) with h2 | h2
    · have hg := ite_t hg h2
      refine rg (Z := Zt) 0 0 [(2, .op (.val (.d (eB true))))] [.op (some (.val (.d (eB (decide (i < (0 : Int)))))))] [(1, (.d (eI64 i))), (2, (.d (eS data))), (3, (.ptr 0 0)), (6, (.ptr 1 0)), (12, (.d (eB true)))] [(.var (.d (eDisk d))), (.var (.agg [(.full (([] : (List Str)).map eS)), (.full (([] : (List Write)).map eWrite)), (.d (eI64 (0 : Int))), (.d (eB false))]))] [] hmx (by kernel_rfl) (good_op (bo h2) good_nil) ?_
      refine cd_t rfl (by kernel_rfl) ?_
      refine aw_seq ?_
      refine rg (Z := Zt) 0 0 [] [] [(6, (.ptr 1 0)), (7, (.d (eI64 (4 : Int))))] [(.var (.d (eDisk d))), (.var (.d (eDisk d)))] [] hmx (by kernel_rfl) good_nil ?_
      refine aw_ret ?_
      have hg := some_o hg
      subst hg
      exact lv_r [true, true] [] (by kernel_rfl)
    · have hg := ite_f hg h2
      refine rg (Z := Zt) 0 0 [(2, .op (.val (.d (eB false)))), (6, .op (.val (.d (eI64 (d.sure.length : Int)))))] [.op (some (.val (.d (eB (decide (i < (0 : Int))))))), .op (xLen Pg 25 (.d ((eL eS) d.sure)))] [(1, (.d (eI64 i))), (2, (.d (eS data))), (3, (.ptr 0 0)), (6, (.ptr 1 0)), (12, (.d (eB (decide (i ≥ (d.sure.length : Int))))))] [(.var (.d (eDisk d))), (.var (.agg [(.full (([] : (List Str)).map eS)), (.full (([] : (List Write)).map eWrite)), (.d (eI64 (0 : Int))), (.d (eB false))]))] [] hmx (by kernel_rfl) (good_op (bo h2) (good_op (len_d (e := 9) (by kernel_rfl)) good_nil)) ?_
      rcases Bool.eq_false_or_eq_true (decide (i ≥ (d.sure.length : Int))) with h3 | h3
      · have hg := ite_t hg h3
        refine cd_t h3 (by kernel_rfl) ?_
        refine aw_seq ?_
        refine rg (Z := Zt) 0 0 [] [] [(6, (.ptr 1 0)), (7, (.d (eI64 (4 : Int))))] [(.var (.d (eDisk d))), (.var (.d (eDisk d)))] [] hmx (by kernel_rfl) good_nil ?_
        refine aw_ret ?_
        have hg := some_o hg
        subst hg
        exact lv_r [true, true] [] (by kernel_rfl)
      · have hg := ite_f hg h3
        refine cd_f h3 (by kernel_rfl) ?_
        refine aw_seq ?_
        refine rg (Z := Zt) 0 0 [] [] [(1, (.d (eI64 i))), (2, (.d (eS data))), (3, (.ptr 0 0)), (6, (.ptr 1 0)), (23, (.d (eB (decide ((data.length : Int) > (64 : Int))))))] [(.var (.d (eDisk d))), (.var (.agg [(.full (([] : (List Str)).map eS)), (.full (([] : (List Write)).map eWrite)), (.d (eI64 (0 : Int))), (.d (eB false))]))] [] hmx (by kernel_rfl) good_nil ?_
        rcases Bool.eq_false_or_eq_true (decide ((data.length : Int) > (64 : Int))) with h4 | h4
        · have hg := ite_t hg h4
          refine cd_t h4 (by kernel_rfl) ?_
          refine aw_seq ?_
          refine rg (Z := Zt) 0 0 [] [] [(6, (.ptr 1 0)), (7, (.d (eI64 (5 : Int))))] [(.var (.d (eDisk d))), (.var (.d (eDisk d)))] [] hmx (by kernel_rfl) good_nil ?_
          refine aw_ret ?_
          have hg := some_o hg
          subst hg
          exact lv_r [true, true] [] (by kernel_rfl)
        · have hg := ite_f hg h4
          refine cd_f h4 (by kernel_rfl) ?_
          refine aw_skip ?_
          refine aw_seq ?_
          obtain ⟨x5, h6, hg⟩ := let_o hg
          refine rg (Z := Zt) 0 0 [(1, .vf (.d (eDisk x5)))] [.vf 263 [(.d (eDisk d))]] [(1, (.d (eI64 i))), (2, (.d (eS data))), (3, (.ptr 0 0)), (6, (.ptr 1 0))] [(.var (.d (eDisk x5))), (.var (.agg [(.full (([] : (List Str)).map eS)), (.full (([] : (List Write)).map eWrite)), (.d (eI64 (0 : Int))), (.d (eB false))]))] [] hmx (by kernel_rfl) (good_vf (t_ref04_burn h6) rfl rfl good_nil) ?_
          refine aw_seq ?_
          refine aw_seq ?_
          refine rg (Z := Zt) 0 0 [] [] [(1, (.d (eI64 i))), (2, (.d (eS data))), (3, (.ptr 0 0)), (6, (.ptr 1 0)), (31, (.d (eB x5.dead)))] [(.var (.d (eDisk x5))), (.var (.agg [(.full (([] : (List Str)).map eS)), (.full (([] : (List Write)).map eWrite)), (.d (eI64 (0 : Int))), (.d (eB false))]))] [] hmx (by kernel_rfl) good_nil ?_
          rcases Bool.eq_false_or_eq_true x5.dead with h7 | h7
          · have hg := ite_t hg h7
            refine cd_t h7 (by kernel_rfl) ?_
            refine aw_seq ?_
            refine rg (Z := Zt) 0 0 [] [] [(6, (.ptr 1 0)), (7, (.d (eI64 (6 : Int))))] [(.var (.d (eDisk x5))), (.var (.d (eDisk x5)))] [] hmx (by kernel_rfl) good_nil ?_
            refine aw_ret ?_
            have hg := some_o hg
            subst hg
            exact lv_r [true, true] [] (by kernel_rfl)
          · have hg := ite_f hg h7
            refine cd_f h7 (by kernel_rfl) ?_
            refine aw_skip ?_
            refine aw_seq ?_
            obtain ⟨h8, hg⟩ := chk_o hg
            obtain ⟨h9, hg⟩ := chk_o hg
            refine rg (Z := Zt) 0 2 [(3, .op (.tok 0 x5.cache.length (.own (x5.cache.map eWrite) 0))), (8, .op (.tok 0 (x5.cache ++ ([(Write.mk i data)] : (List Write))).length (.own ((x5.cache ++ ([(Write.mk i data)] : (List Write))).map eWrite) 0)))] [.op (evBuiltin Pg .append [26, 26] [(.full (([] : (List Write)).map eWrite)), (.d ((eL eWrite) x5.cache))] [none, none] 0), .op (evBuiltin Pg .append [26, 26] [(.own (x5.cache.map eWrite) 0), (.full (([(Write.mk i data)] : (List Write)).map eWrite))] [(some x5.cache.length), none] 1)] [(3, (.ptr 0 0)), (6, (.ptr 1 0))] [(.var (.d (eDisk (Disk.mk x5.sure (x5.cache ++ ([(Write.mk i data)] : (List Write))) x5.fuse x5.dead)))), (.var (.agg [(.full (([] : (List Str)).map eS)), (.full (([] : (List Write)).map eWrite)), (.d (eI64 (0 : Int))), (.d (eB false))]))] [(some (x5.cache ++ ([(Write.mk i data)] : (List Write))).length), none] hmx (by kernel_rfl) (good_op (app_full (s := 2) (b := true) (by_ := 24) (s' := 2) (b' := true) (y' := 24) (l := ([] : (List Write))) (m := x5.cache) (f := eWrite) (by kernel_rfl) (by kernel_rfl) (by kernel_rfl) (by decide) (fun _ => rfl) rfl rfl h8) (good_op (app_own (s := 2) (b := true) (by_ := 24) (s' := 2) (b' := true) (y' := 24) (l := x5.cache) (m := ([(Write.mk i data)] : (List Write))) (f := eWrite) (by kernel_rfl) (by kernel_rfl) (by kernel_rfl) (by decide) (fun _ => rfl) rfl rfl h9) good_nil)) ?_
            refine aw_seq ?_
            refine rg (Z := Zt) 0 0 [] [] [(6, (.ptr 1 0)), (7, (.d (eI64 (0 : Int))))] [(.var (.d (eDisk (Disk.mk x5.sure (x5.cache ++ ([(Write.mk i data)] : (List Write))) x5.fuse x5.dead)))), (.var (.d (eDisk (Disk.mk x5.sure (x5.cache ++ ([(Write.mk i data)] : (List Write))) x5.fuse x5.dead))))] [(some (x5.cache ++ ([(Write.mk i data)] : (List Write))).length), none] hmx (by kernel_rfl) good_nil ?_
            refine aw_ret ?_
            have hg := some_o hg
            subst hg
            exact lv_r [true, true] [] (by kernel_rfl)

/- ref08.Note -/
def ref08_Note (n : Nat) (d : Disk) (m : Int) : Option (Disk × Int) :=
  (Bnd (ref03_Right n m (wI64 ((d.sure.length : Int) - (2 : Int)))) fun x1 => (bif (!x1) then (some (d, (1 : Int))) else (Bnd (ref01_Put32 n m) fun x4 => (Bnd (ref02_Seal n x4) fun x6 => (Bnd (ref04_Write d (1 : Int) x6) fun x8 => (some (x8.1, x8.2)))))))
theorem t_ref08_Note {n : Nat} {d : Disk} {m : Int} {r : (Disk × Int)} (hg : ref08_Note n d m = some r) : VF Pg 134 [(.d (eDisk d)), (.d (eU32 m))] (single [(.d (eDisk r.1)), (.d (eI64 r.2))]) := by
  refine fn_ok (fn := Tryz.f134) (by kernel_rfl) rfl (by kernel_rfl) (Nat.le_of_ble_eq_true (by kernel_rfl)) fun B hB => ?_
  refine aw_seq ?_
  refine rg (Z := Zt) 2 0 [] [] [(1, (.d (eU32 m))), (2, (.ptr 0 0)), (4, (.ptr 1 0))] [(.var (.d (eDisk d))), (.var (.agg [(.full (([] : (List Str)).map eS)), (.full (([] : (List Write)).map eWrite)), (.d (eI64 (0 : Int))), (.d (eB false))]))] [] hmx (by kernel_rfl) good_nil ?_
  refine aw_seq ?_
  refine aw_seq ?_
  obtain ⟨x1, h2, hg⟩ := bnd_o hg
  refine rg (Z := Zt) 0 0 [(3, .op (.val (.d (eI64 (d.sure.length : Int))))), (5, .vf (.d (eB x1)))] [.op (xLen Pg 25 (.d ((eL eS) d.sure))), .vf 196 [(.d (eU32 m)), (.d (eI64 (wI64 ((d.sure.length : Int) - (2 : Int)))))]] [(1, (.d (eU32 m))), (2, (.ptr 0 0)), (4, (.ptr 1 0)), (12, (.d (eB (!x1))))] [(.var (.d (eDisk d))), (.var (.agg [(.full (([] : (List Str)).map eS)), (.full (([] : (List Write)).map eWrite)), (.d (eI64 (0 : Int))), (.d (eB false))]))] [] hmx (by kernel_rfl) (good_op (len_d (e := 9) (by kernel_rfl)) (good_vf (t_ref03_Right h2) rfl rfl good_nil)) ?_
  rcases Bool.eq_false_or_eq_true (!x1) with h3 | h3
  · have hg := ite_t hg h3
    refine cd_t h3 (by kernel_rfl) ?_
    refine aw_seq ?_
    refine rg (Z := Zt) 0 0 [] [] [(4, (.ptr 1 0)), (5, (.d (eI64 (1 : Int))))] [(.var (.d (eDisk d))), (.var (.d (eDisk d)))] [] hmx (by kernel_rfl) good_nil ?_
    refine aw_ret ?_
    have hg := some_o hg
    subst hg
    exact lv_r [true, true] [] (by kernel_rfl)
  · have hg := ite_f hg h3
    refine cd_f h3 (by kernel_rfl) ?_
    refine aw_skip ?_
    refine aw_seq ?_
    obtain ⟨x4, h5, hg⟩ := bnd_o hg
    obtain ⟨x6, h7, hg⟩ := bnd_o hg
    obtain ⟨x8, h9, hg⟩ := bnd_o hg
    refine rg (Z := Zt) 0 0 [(2, .vf (.d (eS x4))), (3, .vf (.d (eS x6))), (4, .vf (.tup [(.d (eDisk x8.1)), (.d (eI64 x8.2))]))] [.vf 127 [(.d (eU32 m))], .vf 126 [(.d (eS x4))], .vf 200 [(.d (eDisk d)), (.d (eI64 (1 : Int))), (.d (eS x6))]] [(4, (.ptr 1 0)), (5, (.d (eI64 x8.2)))] [(.var (.d (eDisk d))), (.var (.d (eDisk x8.1)))] [] hmx (by kernel_rfl) (good_vf (t_ref01_Put32 h5) rfl rfl (good_vf (t_ref02_Seal h7) rfl rfl (good_vf (t_ref04_Write h9) rfl rfl good_nil))) ?_
    refine aw_ret ?_
    have hg := some_o hg
    subst hg
    exact lv_r [true, true] [] (by kernel_rfl)

/- ref04.Flush -/
def ref04_Flush_L1 (n : Nat) (d : Disk) (x2 : Disk) (v8 : (List Str)) (v9 : Int) : Option (Disk × Int) :=
  match n with
  | 0 => none
  | n + 1 => (bif (decide (v9 < (x2.sure.length : Int))) then (Bnd (ref04_holds n x2 v9) fun x15 => (Chk (appOK v8.length 1 16) (ref04_Flush_L1 n d x2 (v8 ++ ([x15] : (List Str))) (wI64 (v9 + (1 : Int)))))) else (some ((Disk.mk v8 ([] : (List Write)) x2.fuse x2.dead), (0 : Int))))
def ref04_Flush (n : Nat) (d : Disk) : Option (Disk × Int) :=
  (bif d.dead then (some (d, (6 : Int))) else (Let (ref04_burn d) fun x2 => (bif x2.dead then (some (x2, (6 : Int))) else (ref04_Flush_L1 n d x2 ([] : (List Str)) (0 : Int)))))
theorem t_ref04_Flush {n : Nat} {d : Disk} {r : (Disk × Int)} (hg : ref04_Flush n d = some r) : VF Pg 202 [(.d (eDisk d))] (single [(.d (eDisk r.1)), (.d (eI64 r.2))]) := by
  refine fn_ok (fn := Tryz.f202) (by kernel_rfl) rfl (by kernel_rfl) (Nat.le_of_ble_eq_true (by kernel_rfl)) fun B hB => ?_
  refine aw_seq ?_
  refine rg (Z := Zt) 2 0 [] [] [(1, (.ptr 0 0)), (2, (.ptr 1 0))] [(.var (.d (eDisk d))), (.var (.agg [(.full (([] : (List Str)).map eS)), (.full (([] : (List Write)).map eWrite)), (.d (eI64 (0 : Int))), (.d (eB false))]))] [] hmx (by kernel_rfl) good_nil ?_
  refine aw_seq ?_
  refine aw_seq ?_
  refine rg (Z := Zt) 0 0 [] [] [(1, (.ptr 0 0)), (2, (.ptr 1 0)), (7, (.d (eB d.dead)))] [(.var (.d (eDisk d))), (.var (.agg [(.full (([] : (List Str)).map eS)), (.full (([] : (List Write)).map eWrite)), (.d (eI64 (0 : Int))), (.d (eB false))]))] [] hmx (by kernel_rfl) good_nil ?_
  rcases Bool.eq_false_or_eq_true d.dead with h1 | h1
  · have hg := ite_t hg h1
    refine cd_t h1 (by kernel_rfl) ?_
    refine aw_seq ?_
    refine rg (Z := Zt) 0 0 [] [] [(2, (.ptr 1 0)), (3, (.d (eI64 (6 : Int))))] [(.var (.d (eDisk d))), (.var (.d (eDisk d)))] [] hmx (by kernel_rfl) good_nil ?_
    refine aw_ret ?_
    have hg := some_o hg
    subst hg
    exact lv_r [true, true] [] (by kernel_rfl)
  · have hg := ite_f hg h1
    refine cd_f h1 (by kernel_rfl) ?_
    refine aw_skip ?_
    refine aw_seq ?_
    obtain ⟨x2, h3, hg⟩ := let_o hg
    refine rg (Z := Zt) 0 0 [(1, .vf (.d (eDisk x2)))] [.vf 263 [(.d (eDisk d))]] [(1, (.ptr 0 0)), (2, (.ptr 1 0))] [(.var (.d (eDisk x2))), (.var (.agg [(.full (([] : (List Str)).map eS)), (.full (([] : (List Write)).map eWrite)), (.d (eI64 (0 : Int))), (.d (eB false))]))] [] hmx (by kernel_rfl) (good_vf (t_ref04_burn h3) rfl rfl good_nil) ?_
    refine aw_seq ?_
    refine aw_seq ?_
    refine rg (Z := Zt) 0 0 [] [] [(1, (.ptr 0 0)), (2, (.ptr 1 0)), (12, (.d (eB x2.dead)))] [(.var (.d (eDisk x2))), (.var (.agg [(.full (([] : (List Str)).map eS)), (.full (([] : (List Write)).map eWrite)), (.d (eI64 (0 : Int))), (.d (eB false))]))] [] hmx (by kernel_rfl) good_nil ?_
    rcases Bool.eq_false_or_eq_true x2.dead with h4 | h4
    · have hg := ite_t hg h4
      refine cd_t h4 (by kernel_rfl) ?_
      refine aw_seq ?_
      refine rg (Z := Zt) 0 0 [] [] [(2, (.ptr 1 0)), (3, (.d (eI64 (6 : Int))))] [(.var (.d (eDisk x2))), (.var (.d (eDisk x2)))] [] hmx (by kernel_rfl) good_nil ?_
      refine aw_ret ?_
      have hg := some_o hg
      subst hg
      exact lv_r [true, true] [] (by kernel_rfl)
    · have hg := ite_f hg h4
      refine cd_f h4 (by kernel_rfl) ?_
      refine aw_skip ?_
      refine aw_seq ?_
      refine rg (Z := Zt) 0 0 [] [] [(1, (.ptr 0 0)), (2, (.ptr 1 0)), (4, (.full (([] : (List Str)).map eS)))] [(.var (.d (eDisk x2))), (.var (.agg [(.full (([] : (List Str)).map eS)), (.full (([] : (List Write)).map eWrite)), (.d (eI64 (0 : Int))), (.d (eB false))]))] [] hmx (by kernel_rfl) good_nil ?_
      refine aw_seq ?_
      refine aw_seq ?_
      refine rg (Z := Zt) 0 0 [] [] [(1, (.ptr 0 0)), (2, (.ptr 1 0)), (4, (.full (([] : (List Str)).map eS))), (5, (.d (eI64 (0 : Int))))] [(.var (.d (eDisk x2))), (.var (.agg [(.full (([] : (List Str)).map eS)), (.full (([] : (List Write)).map eWrite)), (.d (eI64 (0 : Int))), (.d (eB false))]))] [] hmx (by kernel_rfl) good_nil ?_
      refine aw_block ?_
      refine aw_loop (fun μ σ => ∃ (v8 : (List Str)) (v9 : Int), μ ≤ n ∧ ref04_Flush_L1 μ d x2 v8 v9 = some r ∧ Wk B σ (st Tryz.f202.ntmps [(1, (.ptr 0 0)), (2, (.ptr 1 0)), (4, (.own (v8.map eS) 0)), (5, (.d (eI64 v9)))] [(.var (.d (eDisk x2))), (.var (.agg [(.full (([] : (List Str)).map eS)), (.full (([] : (List Write)).map eWrite)), (.d (eI64 (0 : Int))), (.d (eB false))]))] [(some v8.length)])) n ⟨([] : (List Str)), (0 : Int), Nat.le_refl _, hg, (Wk.trans (wk_room 1) (wk_adopt (l := [(1, (.ptr 0 0)), (2, (.ptr 1 0)), (4, (.own (([] : (List Str)).map eS) 0)), (5, (.d (eI64 (0 : Int))))]) (k := [(some 0)]) 4 0 (([] : (List Str)).map eS) (by kernel_rfl)))⟩ ?_
      rintro μ σ ⟨v8, v9, hle, hg, hwk⟩
      refine aw_wk hwk ?_
      clear hwk
      cases μ with
      | zero => exact absurd (show none = some r from hg) (by simp)
      | succ n =>
        refine aw_seq ?_
        refine aw_seq ?_
        refine rg (Z := Zt) 0 0 [(3, .op (.val (.d (eI64 (x2.sure.length : Int)))))] [.op (xLen Pg 25 (.d ((eL eS) x2.sure)))] [(1, (.ptr 0 0)), (2, (.ptr 1 0)), (4, (.own (v8.map eS) 0)), (5, (.d (eI64 v9))), (18, (.d (eB (decide (v9 < (x2.sure.length : Int))))))] [(.var (.d (eDisk x2))), (.var (.agg [(.full (([] : (List Str)).map eS)), (.full (([] : (List Write)).map eWrite)), (.d (eI64 (0 : Int))), (.d (eB false))]))] [(some v8.length)] hmx (by kernel_rfl) (good_op (len_d (e := 9) (by kernel_rfl)) good_nil) ?_
        rcases Bool.eq_false_or_eq_true (decide (v9 < (x2.sure.length : Int))) with h14 | h14
        · have hg := ite_t hg h14
          refine cd_t h14 (by kernel_rfl) ?_
          refine aw_skip ?_
          refine aw_seq ?_
          refine aw_block ?_
          obtain ⟨x15, h16, hg⟩ := bnd_o hg
          obtain ⟨h17, hg⟩ := chk_o hg
          refine rg (Z := Zt) 0 1 [(3, .vf (.d (eS x15))), (5, .op (.tok 0 (v8 ++ ([x15] : (List Str))).length (.own ((v8 ++ ([x15] : (List Str))).map eS) 0)))] [.vf 257 [(.d (eDisk x2)), (.d (eI64 v9))], .op (evBuiltin Pg .append [25, 25] [(.own (v8.map eS) 0), (.full (([x15] : (List Str)).map eS))] [(some v8.length), none] 1)] [(1, (.ptr 0 0)), (2, (.ptr 1 0)), (4, (.own ((v8 ++ ([x15] : (List Str))).map eS) 0)), (5, (.d (eI64 v9)))] [(.var (.d (eDisk x2))), (.var (.agg [(.full (([] : (List Str)).map eS)), (.full (([] : (List Write)).map eWrite)), (.d (eI64 (0 : Int))), (.d (eB false))]))] [(some (v8 ++ ([x15] : (List Str))).length), none] hmx (by kernel_rfl) (good_vf (t_ref04_holds h16) rfl rfl (good_op (app_own (s := 1) (b := false) (by_ := 16) (s' := 1) (b' := false) (y' := 16) (l := v8) (m := ([x15] : (List Str))) (f := eS) (by kernel_rfl) (by kernel_rfl) (by kernel_rfl) (by decide) (fun _ => rfl) rfl rfl h17) good_nil)) ?_
          refine rg (Z := Zt) 0 0 [] [] [(1, (.ptr 0 0)), (2, (.ptr 1 0)), (4, (.own ((v8 ++ ([x15] : (List Str))).map eS) 0)), (5, (.d (eI64 (wI64 (v9 + (1 : Int))))))] [(.var (.d (eDisk x2))), (.var (.agg [(.full (([] : (List Str)).map eS)), (.full (([] : (List Write)).map eWrite)), (.d (eI64 (0 : Int))), (.d (eB false))]))] [(some (v8 ++ ([x15] : (List Str))).length), none] hmx (by kernel_rfl) good_nil ?_
          exact ⟨n, by omega, (v8 ++ ([x15] : (List Str))), (wI64 (v9 + (1 : Int))), by omega, hg, (wk_cut (l := [(1, (.ptr 0 0)), (2, (.ptr 1 0)), (4, (.own ((v8 ++ ([x15] : (List Str))).map eS) 0)), (5, (.d (eI64 (wI64 (v9 + (1 : Int))))))]) (h := [(.var (.d (eDisk x2))), (.var (.agg [(.full (([] : (List Str)).map eS)), (.full (([] : (List Write)).map eWrite)), (.d (eI64 (0 : Int))), (.d (eB false))]))]) (k := [(some (v8 ++ ([x15] : (List Str))).length)]) hB 2 1 (by kernel_rfl) (by kernel_rfl))⟩
        · have hg := ite_f hg h14
          refine cd_f h14 (by kernel_rfl) ?_
          refine aw_exit ?_
          refine aw_seq ?_
          refine rg (Z := Zt) 0 0 [] [] [(1, (.ptr 0 0)), (2, (.ptr 1 0))] [(.var (.d (eDisk (Disk.mk v8 ([] : (List Write)) x2.fuse x2.dead)))), (.var (.agg [(.full (([] : (List Str)).map eS)), (.full (([] : (List Write)).map eWrite)), (.d (eI64 (0 : Int))), (.d (eB false))]))] [(some v8.length)] hmx (by kernel_rfl) good_nil ?_
          refine aw_seq ?_
          refine rg (Z := Zt) 0 0 [] [] [(2, (.ptr 1 0)), (3, (.d (eI64 (0 : Int))))] [(.var (.d (eDisk (Disk.mk v8 ([] : (List Write)) x2.fuse x2.dead)))), (.var (.d (eDisk (Disk.mk v8 ([] : (List Write)) x2.fuse x2.dead))))] [(some v8.length)] hmx (by kernel_rfl) good_nil ?_
          refine aw_ret ?_
          have hg := some_o hg
          subst hg
          exact lv_r [true, true] [] (by kernel_rfl)

/- ref08.Save -/
def ref08_Save (n : Nat) (d : Disk) (m : Int) : Option (Disk × Int) :=
  (Bnd (ref08_Note n d m) fun x1 => (bif (x1.2 != (0 : Int)) then (some (x1.1, x1.2)) else (Bnd (ref04_Flush n x1.1) fun x4 => (some (x4.1, x4.2)))))
theorem t_ref08_Save {n : Nat} {d : Disk} {m : Int} {r : (Disk × Int)} (hg : ref08_Save n d m = some r) : VF Pg 197 [(.d (eDisk d)), (.d (eU32 m))] (single [(.d (eDisk r.1)), (.d (eI64 r.2))]) := by
  refine fn_ok (fn := Tryz.f197) (by kernel_rfl) rfl (by kernel_rfl) (Nat.le_of_ble_eq_true (by kernel_rfl)) fun B hB => ?_
  refine aw_seq ?_
  refine rg (Z := Zt) 2 0 [] [] [(1, (.d (eU32 m))), (2, (.ptr 0 0)), (4, (.ptr 1 0))] [(.var (.d (eDisk d))), (.var (.agg [(.full (([] : (List Str)).map eS)), (.full (([] : (List Write)).map eWrite)), (.d (eI64 (0 : Int))), (.d (eB false))]))] [] hmx (by kernel_rfl) good_nil ?_
  refine aw_seq ?_
  obtain ⟨x1, h2, hg⟩ := bnd_o hg
  refine rg (Z := Zt) 1 0 [(2, .vf (.tup [(.d (eDisk x1.1)), (.d (eI64 x1.2))]))] [.vf 134 [(.d (eDisk d)), (.d (eU32 m))]] [(4, (.ptr 1 0)), (6, (.ptr 2 0)), (7, (.d (eI64 x1.2)))] [(.var (.d (eDisk d))), (.var (.agg [(.full (([] : (List Str)).map eS)), (.full (([] : (List Write)).map eWrite)), (.d (eI64 (0 : Int))), (.d (eB false))])), (.var (.d (eDisk x1.1)))] [] hmx (by kernel_rfl) (good_vf (t_ref08_Note h2) rfl rfl good_nil) ?_
  refine aw_seq ?_
  refine aw_seq ?_
  refine rg (Z := Zt) 0 0 [] [] [(4, (.ptr 1 0)), (6, (.ptr 2 0)), (7, (.d (eI64 x1.2))), (15, (.d (eB (x1.2 != (0 : Int)))))] [(.var (.d (eDisk d))), (.var (.agg [(.full (([] : (List Str)).map eS)), (.full (([] : (List Write)).map eWrite)), (.d (eI64 (0 : Int))), (.d (eB false))])), (.var (.d (eDisk x1.1)))] [] hmx (by kernel_rfl) good_nil ?_
  rcases Bool.eq_false_or_eq_true (x1.2 != (0 : Int)) with h3 | h3
  · have hg := ite_t hg h3
    refine cd_t h3 (by kernel_rfl) ?_
    refine aw_seq ?_
    refine rg (Z := Zt) 0 0 [] [] [(4, (.ptr 1 0)), (5, (.d (eI64 x1.2)))] [(.var (.d (eDisk d))), (.var (.d (eDisk x1.1))), (.var (.d (eDisk x1.1)))] [] hmx (by kernel_rfl) good_nil ?_
    refine aw_ret ?_
    have hg := some_o hg
    subst hg
    exact lv_r [true, true] [] (by kernel_rfl)
  · have hg := ite_f hg h3
    refine cd_f h3 (by kernel_rfl) ?_
    refine aw_skip ?_
    refine aw_seq ?_
    obtain ⟨x4, h5, hg⟩ := bnd_o hg
    refine rg (Z := Zt) 0 0 [(1, .vf (.tup [(.d (eDisk x4.1)), (.d (eI64 x4.2))]))] [.vf 202 [(.d (eDisk x1.1))]] [(4, (.ptr 1 0)), (5, (.d (eI64 x4.2)))] [(.var (.d (eDisk d))), (.var (.d (eDisk x4.1))), (.var (.d (eDisk x1.1)))] [] hmx (by kernel_rfl) (good_vf (t_ref04_Flush h5) rfl rfl good_nil) ?_
    refine aw_ret ?_
    have hg := some_o hg
    subst hg
    exact lv_r [true, true] [] (by kernel_rfl)

/- ref15.save -/
def ref15_save (n : Nat) (s : Store) (m : Int) : Option (Store × Int) :=
  (bif (m == s.mask) then (some (s, (0 : Int))) else (Bnd (ref08_Save n s.disk m) fun x2 => (bif (x2.2 == (0 : Int)) then (some ((Store.mk x2.1 s.super m), x2.2)) else (some ((Store.mk x2.1 s.super s.mask), x2.2)))))
theorem t_ref15_save {n : Nat} {s : Store} {m : Int} {r : (Store × Int)} (hg : ref15_save n s m = some r) : VF Pg 131 [(.d (eStore s)), (.d (eU32 m))] (single [(.d (eStore r.1)), (.d (eI64 r.2))]) := by
  refine fn_ok (fn := Tryz.f131) (by kernel_rfl) rfl (by kernel_rfl) (Nat.le_of_ble_eq_true (by kernel_rfl)) fun B hB => ?_
  refine aw_seq ?_
  refine rg (Z := Zt) 2 0 [] [] [(1, (.d (eU32 m))), (2, (.ptr 0 0)), (4, (.ptr 1 0))] [(.var (.d (eStore s))), (.var (.agg [(.agg [(.full (([] : (List Str)).map eS)), (.full (([] : (List Write)).map eWrite)), (.d (eI64 (0 : Int))), (.d (eB false))]), (.agg [(.d (eI64 (0 : Int))), (.agg [(.d (eU64 (0 : Int))), (.d (eU64 (0 : Int))), (.agg [(.d (eU64 (0 : Int))), (.d (eU64 (0 : Int)))])]), (.d (eB false)), (.d (eB false)), (.d (eB false))]), (.d (eU32 (0 : Int)))]))] [] hmx (by kernel_rfl) good_nil ?_
  refine aw_seq ?_
  refine aw_seq ?_
  refine rg (Z := Zt) 0 0 [] [] [(1, (.d (eU32 m))), (2, (.ptr 0 0)), (4, (.ptr 1 0)), (11, (.d (eB (m == s.mask))))] [(.var (.d (eStore s))), (.var (.agg [(.agg [(.full (([] : (List Str)).map eS)), (.full (([] : (List Write)).map eWrite)), (.d (eI64 (0 : Int))), (.d (eB false))]), (.agg [(.d (eI64 (0 : Int))), (.agg [(.d (eU64 (0 : Int))), (.d (eU64 (0 : Int))), (.agg [(.d (eU64 (0 : Int))), (.d (eU64 (0 : Int)))])]), (.d (eB false)), (.d (eB false)), (.d (eB false))]), (.d (eU32 (0 : Int)))]))] [] hmx (by kernel_rfl) good_nil ?_
  rcases Bool.eq_false_or_eq_true (m == s.mask) with h1 | h1
  · have hg := ite_t hg h1
    refine cd_t h1 (by kernel_rfl) ?_
    refine aw_seq ?_
    refine rg (Z := Zt) 0 0 [] [] [(4, (.ptr 1 0)), (5, (.d (eI64 (0 : Int))))] [(.var (.d (eStore s))), (.var (.d (eStore s)))] [] hmx (by kernel_rfl) good_nil ?_
    refine aw_ret ?_
    have hg := some_o hg
    subst hg
    exact lv_r [true, true] [] (by kernel_rfl)
  · have hg := ite_f hg h1
    refine cd_f h1 (by kernel_rfl) ?_
    refine aw_skip ?_
    refine aw_seq ?_
    obtain ⟨x2, h3, hg⟩ := bnd_o hg
    refine rg (Z := Zt) 1 0 [(3, .vf (.tup [(.d (eDisk x2.1)), (.d (eI64 x2.2))]))] [.vf 197 [(.d (eDisk s.disk)), (.d (eU32 m))]] [(1, (.d (eU32 m))), (2, (.ptr 0 0)), (4, (.ptr 1 0)), (6, (.ptr 2 0)), (7, (.d (eI64 x2.2)))] [(.var (.d (eStore s))), (.var (.agg [(.agg [(.full (([] : (List Str)).map eS)), (.full (([] : (List Write)).map eWrite)), (.d (eI64 (0 : Int))), (.d (eB false))]), (.agg [(.d (eI64 (0 : Int))), (.agg [(.d (eU64 (0 : Int))), (.d (eU64 (0 : Int))), (.agg [(.d (eU64 (0 : Int))), (.d (eU64 (0 : Int)))])]), (.d (eB false)), (.d (eB false)), (.d (eB false))]), (.d (eU32 (0 : Int)))])), (.var (.d (eDisk x2.1)))] [] hmx (by kernel_rfl) (good_vf (t_ref08_Save h3) rfl rfl good_nil) ?_
    refine aw_seq ?_
    refine rg (Z := Zt) 0 0 [] [] [(1, (.d (eU32 m))), (2, (.ptr 0 0)), (4, (.ptr 1 0)), (7, (.d (eI64 x2.2)))] [(.var (.d (eStore (Store.mk x2.1 s.super s.mask)))), (.var (.agg [(.agg [(.full (([] : (List Str)).map eS)), (.full (([] : (List Write)).map eWrite)), (.d (eI64 (0 : Int))), (.d (eB false))]), (.agg [(.d (eI64 (0 : Int))), (.agg [(.d (eU64 (0 : Int))), (.d (eU64 (0 : Int))), (.agg [(.d (eU64 (0 : Int))), (.d (eU64 (0 : Int)))])]), (.d (eB false)), (.d (eB false)), (.d (eB false))]), (.d (eU32 (0 : Int)))])), (.var (.d (eDisk x2.1)))] [] hmx (by kernel_rfl) good_nil ?_
    refine aw_seq ?_
    refine aw_seq ?_
    refine rg (Z := Zt) 0 0 [] [] [(1, (.d (eU32 m))), (2, (.ptr 0 0)), (4, (.ptr 1 0)), (7, (.d (eI64 x2.2))), (23, (.d (eB (x2.2 == (0 : Int)))))] [(.var (.d (eStore (Store.mk x2.1 s.super s.mask)))), (.var (.agg [(.agg [(.full (([] : (List Str)).map eS)), (.full (([] : (List Write)).map eWrite)), (.d (eI64 (0 : Int))), (.d (eB false))]), (.agg [(.d (eI64 (0 : Int))), (.agg [(.d (eU64 (0 : Int))), (.d (eU64 (0 : Int))), (.agg [(.d (eU64 (0 : Int))), (.d (eU64 (0 : Int)))])]), (.d (eB false)), (.d (eB false)), (.d (eB false))]), (.d (eU32 (0 : Int)))])), (.var (.d (eDisk x2.1)))] [] hmx (by kernel_rfl) good_nil ?_
    rcases Bool.eq_false_or_eq_true (x2.2 == (0 : Int)) with h4 | h4
    · have hg := ite_t hg h4
      refine cd_t h4 (by kernel_rfl) ?_
      refine rg (Z := Zt) 0 0 [] [] [(2, (.ptr 0 0)), (4, (.ptr 1 0)), (7, (.d (eI64 x2.2)))] [(.var (.d (eStore (Store.mk x2.1 s.super m)))), (.var (.agg [(.agg [(.full (([] : (List Str)).map eS)), (.full (([] : (List Write)).map eWrite)), (.d (eI64 (0 : Int))), (.d (eB false))]), (.agg [(.d (eI64 (0 : Int))), (.agg [(.d (eU64 (0 : Int))), (.d (eU64 (0 : Int))), (.agg [(.d (eU64 (0 : Int))), (.d (eU64 (0 : Int)))])]), (.d (eB false)), (.d (eB false)), (.d (eB false))]), (.d (eU32 (0 : Int)))])), (.var (.d (eDisk x2.1)))] [] hmx (by kernel_rfl) good_nil ?_
      refine aw_seq ?_
      refine rg (Z := Zt) 0 0 [] [] [(4, (.ptr 1 0)), (5, (.d (eI64 x2.2)))] [(.var (.d (eStore (Store.mk x2.1 s.super m)))), (.var (.d (eStore (Store.mk x2.1 s.super m)))), (.var (.d (eDisk x2.1)))] [] hmx (by kernel_rfl) good_nil ?_
      refine aw_ret ?_
      have hg := some_o hg
      subst hg
      exact lv_r [true, true] [] (by kernel_rfl)
    · have hg := ite_f hg h4
      refine cd_f h4 (by kernel_rfl) ?_
      refine aw_skip ?_
      refine aw_seq ?_
      refine rg (Z := Zt) 0 0 [] [] [(4, (.ptr 1 0)), (5, (.d (eI64 x2.2)))] [(.var (.d (eStore (Store.mk x2.1 s.super s.mask)))), (.var (.d (eStore (Store.mk x2.1 s.super s.mask)))), (.var (.d (eDisk x2.1)))] [] hmx (by kernel_rfl) good_nil ?_
      refine aw_ret ?_
      have hg := some_o hg
      subst hg
      exact lv_r [true, true] [] (by kernel_rfl)

/- ref03.Set -/
def ref03_Set_L1 (n : Nat) (m : Int) (l : (List Int)) (v10 : Int) (v11 : Int) : Option Int :=
  match n with
  | 0 => none
  | n + 1 => (bif (decide (v11 < (l.length : Int))) then (Chk (inR v11 l.length) (bif (decide ((gt l v11) ≥ (0 : Int))) then (bif (decide ((gt l v11) < (32 : Int))) then (Bnd (ref03_Has n v10 (gt l v11)) fun x25 => (bif (!x25) then (Bnd (ref03_pow n (gt l v11)) fun x28 => (ref03_Set_L1 n m l (wU32 (v10 + x28)) (wI64 (v11 + (1 : Int))))) else (ref03_Set_L1 n m l v10 (wI64 (v11 + (1 : Int)))))) else (ref03_Set_L1 n m l v10 (wI64 (v11 + (1 : Int))))) else (ref03_Set_L1 n m l v10 (wI64 (v11 + (1 : Int)))))) else (some v10))
def ref03_Set (n : Nat) (m : Int) (l : (List Int)) : Option Int :=
  (ref03_Set_L1 n m l m (0 : Int))
theorem t_ref03_Set {n : Nat} {m : Int} {l : (List Int)} {r : Int} (hg : ref03_Set n m l = some r) : VF Pg 132 [(.d (eU32 m)), (.d ((eL eI64) l))] (single [(.d (eU32 r))]) := by
  refine fn_ok (fn := Tryz.f132) (by kernel_rfl) rfl (by kernel_rfl) (Nat.le_of_ble_eq_true (by kernel_rfl)) fun B hB => ?_
  refine aw_seq ?_
  refine rg (Z := Zt) 0 0 [] [] [(0, (.d (eU32 m))), (1, (.d ((eL eI64) l)))] [] [] hmx (by kernel_rfl) good_nil ?_
  refine aw_seq ?_
  refine aw_seq ?_
  refine rg (Z := Zt) 0 0 [] [] [(0, (.d (eU32 m))), (1, (.d ((eL eI64) l))), (5, (.d (eI64 (0 : Int))))] [] [] hmx (by kernel_rfl) good_nil ?_
  refine aw_block ?_
  refine aw_loop (fun μ σ => ∃ (v10 : Int) (v11 : Int), μ ≤ n ∧ ref03_Set_L1 μ m l v10 v11 = some r ∧ Wk B σ (st Tryz.f132.ntmps [(0, (.d (eU32 v10))), (1, (.d ((eL eI64) l))), (5, (.d (eI64 v11)))] [] [])) n ⟨m, (0 : Int), Nat.le_refl _, hg, (Wk.refl _)⟩ ?_
  rintro μ σ ⟨v10, v11, hle, hg, hwk⟩
  refine aw_wk hwk ?_
  clear hwk
  cases μ with
  | zero => exact absurd (show none = some r from hg) (by simp)
  | succ n =>
    refine aw_seq ?_
    refine aw_seq ?_
    refine rg (Z := Zt) 0 0 [(2, .op (.val (.d (eI64 (l.length : Int)))))] [.op (xLen Pg 47 (.d ((eL eI64) l)))] [(0, (.d (eU32 v10))), (1, (.d ((eL eI64) l))), (5, (.d (eI64 v11))), (9, (.d (eB (decide (v11 < (l.length : Int))))))] [] [] hmx (by kernel_rfl) (good_op (len_d (e := 3) (by kernel_rfl)) good_nil) ?_
    rcases Bool.eq_false_or_eq_true (decide (v11 < (l.length : Int))) with h21 | h21
    · have hg := ite_t hg h21
      refine cd_t h21 (by kernel_rfl) ?_
      refine aw_skip ?_
      refine aw_seq ?_
      refine aw_block ?_
      refine aw_seq ?_
      obtain ⟨h22, hg⟩ := chk_o hg
      rcases Bool.eq_false_or_eq_true (decide ((gt l v11) ≥ (0 : Int))) with h23 | h23
      · have hg := ite_t hg h23
        rcases Bool.eq_false_or_eq_true (decide ((gt l v11) < (32 : Int))) with h24 | h24
        · have hg := ite_t hg h24
          obtain ⟨x25, h26, hg⟩ := bnd_o hg
          refine rg (Z := Zt) 0 0 [(2, .op (.val (.kp (eI64 (gt l v11))))), (5, .op (.val (.d (eB true)))), (8, .op (.val (.kp (eI64 (gt l v11))))), (12, .op (.val (.d (eB true)))), (16, .op (.val (.kp (eI64 (gt l v11))))), (18, .vf (.d (eB x25)))] [.op (xIdA Pg 47 (.d ((eL eI64) l)) (.d (eI64 v11))), .op (some (.val (.d (eB (decide ((gt l v11) ≥ (0 : Int))))))), .op (xIdA Pg 47 (.d ((eL eI64) l)) (.d (eI64 v11))), .op (some (.val (.d (eB (decide ((gt l v11) < (32 : Int))))))), .op (xIdA Pg 47 (.d ((eL eI64) l)) (.d (eI64 v11))), .vf 198 [(.d (eU32 v10)), (.d (eI64 (gt l v11)))]] [(0, (.d (eU32 v10))), (1, (.d ((eL eI64) l))), (5, (.d (eI64 v11))), (32, (.d (eB (!x25))))] [] [] hmx (by kernel_rfl) (good_op (idx_d (s := 1) (b := false) (by_ := 8) (by kernel_rfl) (fun _ => rfl) h22) (good_op (bo h23) (good_op (idx_d (s := 1) (b := false) (by_ := 8) (by kernel_rfl) (fun _ => rfl) h22) (good_op (bo h24) (good_op (idx_d (s := 1) (b := false) (by_ := 8) (by kernel_rfl) (fun _ => rfl) h22) (good_vf (t_ref03_Has h26) rfl rfl good_nil)))))) ?_
          rcases Bool.eq_false_or_eq_true (!x25) with h27 | h27
          · have hg := ite_t hg h27
            refine cd_t h27 (by kernel_rfl) ?_
            obtain ⟨x28, h29, hg⟩ := bnd_o hg
            refine rg (Z := Zt) 0 0 [(3, .op (.val (.kp (eI64 (gt l v11))))), (5, .vf (.d (eU32 x28)))] [.op (xIdA Pg 47 (.d ((eL eI64) l)) (.d (eI64 v11))), .vf 199 [(.d (eI64 (gt l v11)))]] [(0, (.d (eU32 (wU32 (v10 + x28))))), (1, (.d ((eL eI64) l))), (5, (.d (eI64 v11)))] [] [] hmx (by kernel_rfl) (good_op (idx_d (s := 1) (b := false) (by_ := 8) (by kernel_rfl) (fun _ => rfl) h22) (good_vf (t_ref03_pow h29) rfl rfl good_nil)) ?_
            refine rg (Z := Zt) 0 0 [] [] [(0, (.d (eU32 (wU32 (v10 + x28))))), (1, (.d ((eL eI64) l))), (5, (.d (eI64 (wI64 (v11 + (1 : Int))))))] [] [] hmx (by kernel_rfl) good_nil ?_
            exact ⟨n, by omega, (wU32 (v10 + x28)), (wI64 (v11 + (1 : Int))), by omega, hg, (Wk.refl _)⟩
          · have hg := ite_f hg h27
            refine cd_f h27 (by kernel_rfl) ?_
            refine aw_skip ?_
            refine rg (Z := Zt) 0 0 [] [] [(0, (.d (eU32 v10))), (1, (.d ((eL eI64) l))), (5, (.d (eI64 (wI64 (v11 + (1 : Int))))))] [] [] hmx (by kernel_rfl) good_nil ?_
            exact ⟨n, by omega, v10, (wI64 (v11 + (1 : Int))), by omega, hg, (Wk.refl _)⟩
        · have hg := ite_f hg h24
          refine rg (Z := Zt) 0 0 [(2, .op (.val (.kp (eI64 (gt l v11))))), (5, .op (.val (.d (eB true)))), (8, .op (.val (.kp (eI64 (gt l v11))))), (12, .op (.val (.d (eB false))))] [.op (xIdA Pg 47 (.d ((eL eI64) l)) (.d (eI64 v11))), .op (some (.val (.d (eB (decide ((gt l v11) ≥ (0 : Int))))))), .op (xIdA Pg 47 (.d ((eL eI64) l)) (.d (eI64 v11))), .op (some (.val (.d (eB (decide ((gt l v11) < (32 : Int)))))))] [(0, (.d (eU32 v10))), (1, (.d ((eL eI64) l))), (5, (.d (eI64 v11))), (32, (.d (eB false)))] [] [] hmx (by kernel_rfl) (good_op (idx_d (s := 1) (b := false) (by_ := 8) (by kernel_rfl) (fun _ => rfl) h22) (good_op (bo h23) (good_op (idx_d (s := 1) (b := false) (by_ := 8) (by kernel_rfl) (fun _ => rfl) h22) (good_op (bo h24) good_nil)))) ?_
          refine cd_f rfl (by kernel_rfl) ?_
          refine aw_skip ?_
          refine rg (Z := Zt) 0 0 [] [] [(0, (.d (eU32 v10))), (1, (.d ((eL eI64) l))), (5, (.d (eI64 (wI64 (v11 + (1 : Int))))))] [] [] hmx (by kernel_rfl) good_nil ?_
          exact ⟨n, by omega, v10, (wI64 (v11 + (1 : Int))), by omega, hg, (Wk.refl _)⟩
      · have hg := ite_f hg h23
        refine rg (Z := Zt) 0 0 [(2, .op (.val (.kp (eI64 (gt l v11))))), (5, .op (.val (.d (eB false))))] [.op (xIdA Pg 47 (.d ((eL eI64) l)) (.d (eI64 v11))), .op (some (.val (.d (eB (decide ((gt l v11) ≥ (0 : Int)))))))] [(0, (.d (eU32 v10))), (1, (.d ((eL eI64) l))), (5, (.d (eI64 v11))), (32, (.d (eB false)))] [] [] hmx (by kernel_rfl) (good_op (idx_d (s := 1) (b := false) (by_ := 8) (by kernel_rfl) (fun _ => rfl) h22) (good_op (bo h23) good_nil)) ?_
        refine cd_f rfl (by kernel_rfl) ?_
        refine aw_skip ?_
        refine rg (Z := Zt) 0 0 [] [] [(0, (.d (eU32 v10))), (1, (.d ((eL eI64) l))), (5, (.d (eI64 (wI64 (v11 + (1 : Int))))))] [] [] hmx (by kernel_rfl) good_nil ?_
        exact ⟨n, by omega, v10, (wI64 (v11 + (1 : Int))), by omega, hg, (Wk.refl _)⟩
    · have hg := ite_f hg h21
      refine cd_f h21 (by kernel_rfl) ?_
      refine aw_exit ?_
      refine aw_seq ?_
      refine rg (Z := Zt) 0 0 [] [] [(4, (.d (eU32 v10)))] [] [] hmx (by kernel_rfl) good_nil ?_
      refine aw_ret ?_
      have hg := some_o hg
      subst hg
      exact lv_r [true] [] (by kernel_rfl)

/- ref15.Mark -/
def ref15_Mark (n : Nat) (s : Store) (i : Int) : Option (Store × Int) :=
  (bif (decide (i < (0 : Int))) then (some (s, (4 : Int))) else (bif (decide (i ≥ s.super.blocks)) then (some (s, (4 : Int))) else (Bnd (ref03_Set n s.mask ([i] : (List Int))) fun x3 => (Bnd (ref15_save n s x3) fun x5 => (some (x5.1, x5.2))))))
theorem t_ref15_Mark {n : Nat} {s : Store} {i : Int} {r : (Store × Int)} (hg : ref15_Mark n s i = some r) : VF Pg 64 [(.d (eStore s)), (.d (eI64 i))] (single [(.d (eStore r.1)), (.d (eI64 r.2))]) := by
  refine fn_ok (fn := Tryz.f64) (by kernel_rfl) rfl (by kernel_rfl) (Nat.le_of_ble_eq_true (by kernel_rfl)) fun B hB => ?_
  refine aw_seq ?_
  refine rg (Z := Zt) 2 0 [] [] [(1, (.d (eI64 i))), (2, (.ptr 0 0)), (4, (.ptr 1 0))] [(.var (.d (eStore s))), (.var (.agg [(.agg [(.full (([] : (List Str)).map eS)), (.full (([] : (List Write)).map eWrite)), (.d (eI64 (0 : Int))), (.d (eB false))]), (.agg [(.d (eI64 (0 : Int))), (.agg [(.d (eU64 (0 : Int))), (.d (eU64 (0 : Int))), (.agg [(.d (eU64 (0 : Int))), (.d (eU64 (0 : Int)))])]), (.d (eB false)), (.d (eB false)), (.d (eB false))]), (.d (eU32 (0 : Int)))]))] [] hmx (by kernel_rfl) good_nil ?_
  refine aw_seq ?_
  refine aw_seq ?_
  rcases Bool.eq_false_or_eq_true (decide (i < (0 : Int))) with h1 | h1
  · have hg := ite_t hg h1
    refine rg (Z := Zt) 0 0 [(2, .op (.val (.d (eB true))))] [.op (some (.val (.d (eB (decide (i < (0 : Int)))))))] [(1, (.d (eI64 i))), (2, (.ptr 0 0)), (4, (.ptr 1 0)), (14, (.d (eB true)))] [(.var (.d (eStore s))), (.var (.agg [(.agg [(.full (([] : (List Str)).map eS)), (.full (([] : (List Write)).map eWrite)), (.d (eI64 (0 : Int))), (.d (eB false))]), (.agg [(.d (eI64 (0 : Int))), (.agg [(.d (eU64 (0 : Int))), (.d (eU64 (0 : Int))), (.agg [(.d (eU64 (0 : Int))), (.d (eU64 (0 : Int)))])]), (.d (eB false)), (.d (eB false)), (.d (eB false))]), (.d (eU32 (0 : Int)))]))] [] hmx (by kernel_rfl) (good_op (bo h1) good_nil) ?_
    refine cd_t rfl (by kernel_rfl) ?_
    refine aw_seq ?_
    refine rg (Z := Zt) 0 0 [] [] [(4, (.ptr 1 0)), (5, (.d (eI64 (4 : Int))))] [(.var (.d (eStore s))), (.var (.d (eStore s)))] [] hmx (by kernel_rfl) good_nil ?_
    refine aw_ret ?_
    have hg := some_o hg
    subst hg
    exact lv_r [true, true] [] (by kernel_rfl)
  · have hg := ite_f hg h1
    refine rg (Z := Zt) 0 0 [(2, .op (.val (.d (eB false))))] [.op (some (.val (.d (eB (decide (i < (0 : Int)))))))] [(1, (.d (eI64 i))), (2, (.ptr 0 0)), (4, (.ptr 1 0)), (14, (.d (eB (decide (i ≥ s.super.blocks)))))] [(.var (.d (eStore s))), (.var (.agg [(.agg [(.full (([] : (List Str)).map eS)), (.full (([] : (List Write)).map eWrite)), (.d (eI64 (0 : Int))), (.d (eB false))]), (.agg [(.d (eI64 (0 : Int))), (.agg [(.d (eU64 (0 : Int))), (.d (eU64 (0 : Int))), (.agg [(.d (eU64 (0 : Int))), (.d (eU64 (0 : Int)))])]), (.d (eB false)), (.d (eB false)), (.d (eB false))]), (.d (eU32 (0 : Int)))]))] [] hmx (by kernel_rfl) (good_op (bo h1) good_nil) ?_
    rcases Bool.eq_false_or_eq_true (decide (i ≥ s.super.blocks)) with h2 | h2
    · have hg := ite_t hg h2
      refine cd_t h2 (by kernel_rfl) ?_
      refine aw_seq ?_
      refine rg (Z := Zt) 0 0 [] [] [(4, (.ptr 1 0)), (5, (.d (eI64 (4 : Int))))] [(.var (.d (eStore s))), (.var (.d (eStore s)))] [] hmx (by kernel_rfl) good_nil ?_
      refine aw_ret ?_
      have hg := some_o hg
      subst hg
      exact lv_r [true, true] [] (by kernel_rfl)
    · have hg := ite_f hg h2
      refine cd_f h2 (by kernel_rfl) ?_
      refine aw_skip ?_
      refine aw_seq ?_
      obtain ⟨x3, h4, hg⟩ := bnd_o hg
      obtain ⟨x5, h6, hg⟩ := bnd_o hg
      refine rg (Z := Zt) 0 0 [(5, .vf (.d (eU32 x3))), (6, .vf (.tup [(.d (eStore x5.1)), (.d (eI64 x5.2))]))] [.vf 132 [(.d (eU32 s.mask)), (.d ((eL eI64) ([i] : (List Int))))], .vf 131 [(.d (eStore s)), (.d (eU32 x3))]] [(4, (.ptr 1 0)), (5, (.d (eI64 x5.2)))] [(.var (.d (eStore s))), (.var (.d (eStore x5.1)))] [] hmx (by kernel_rfl) (good_vf (t_ref03_Set h4) rfl rfl (good_vf (t_ref15_save h6) rfl rfl good_nil)) ?_
      refine aw_ret ?_
      have hg := some_o hg
      subst hg
      exact lv_r [true, true] [] (by kernel_rfl)

/- ref03.Clear -/
def ref03_Clear_L1 (n : Nat) (m : Int) (l : (List Int)) (v8 : Int) (v9 : Int) : Option Int :=
  match n with
  | 0 => none
  | n + 1 => (bif (decide (v9 < (l.length : Int))) then (Chk (inR v9 l.length) (Bnd (ref03_Has n v8 (gt l v9)) fun x19 => (bif x19 then (Bnd (ref03_pow n (gt l v9)) fun x22 => (ref03_Clear_L1 n m l (wU32 (v8 - x22)) (wI64 (v9 + (1 : Int))))) else (ref03_Clear_L1 n m l v8 (wI64 (v9 + (1 : Int))))))) else (some v8))
def ref03_Clear (n : Nat) (m : Int) (l : (List Int)) : Option Int :=
  (ref03_Clear_L1 n m l m (0 : Int))
theorem t_ref03_Clear {n : Nat} {m : Int} {l : (List Int)} {r : Int} (hg : ref03_Clear n m l = some r) : VF Pg 133 [(.d (eU32 m)), (.d ((eL eI64) l))] (single [(.d (eU32 r))]) := by
  refine fn_ok (fn := Tryz.f133) (by kernel_rfl) rfl (by kernel_rfl) (Nat.le_of_ble_eq_true (by kernel_rfl)) fun B hB => ?_
  refine aw_seq ?_
  refine rg (Z := Zt) 0 0 [] [] [(0, (.d (eU32 m))), (1, (.d ((eL eI64) l)))] [] [] hmx (by kernel_rfl) good_nil ?_
  refine aw_seq ?_
  refine aw_seq ?_
  refine rg (Z := Zt) 0 0 [] [] [(0, (.d (eU32 m))), (1, (.d ((eL eI64) l))), (5, (.d (eI64 (0 : Int))))] [] [] hmx (by kernel_rfl) good_nil ?_
  refine aw_block ?_
  refine aw_loop (fun μ σ => ∃ (v8 : Int) (v9 : Int), μ ≤ n ∧ ref03_Clear_L1 μ m l v8 v9 = some r ∧ Wk B σ (st Tryz.f133.ntmps [(0, (.d (eU32 v8))), (1, (.d ((eL eI64) l))), (5, (.d (eI64 v9)))] [] [])) n ⟨m, (0 : Int), Nat.le_refl _, hg, (Wk.refl _)⟩ ?_
  rintro μ σ ⟨v8, v9, hle, hg, hwk⟩
  refine aw_wk hwk ?_
  clear hwk
  cases μ with
  | zero => exact absurd (show none = some r from hg) (by simp)
  | succ n =>
    refine aw_seq ?_
    refine aw_seq ?_
    refine rg (Z := Zt) 0 0 [(2, .op (.val (.d (eI64 (l.length : Int)))))] [.op (xLen Pg 47 (.d ((eL eI64) l)))] [(0, (.d (eU32 v8))), (1, (.d ((eL eI64) l))), (5, (.d (eI64 v9))), (9, (.d (eB (decide (v9 < (l.length : Int))))))] [] [] hmx (by kernel_rfl) (good_op (len_d (e := 3) (by kernel_rfl)) good_nil) ?_
    rcases Bool.eq_false_or_eq_true (decide (v9 < (l.length : Int))) with h17 | h17
    · have hg := ite_t hg h17
      refine cd_t h17 (by kernel_rfl) ?_
      refine aw_skip ?_
      refine aw_seq ?_
      refine aw_block ?_
      refine aw_seq ?_
      obtain ⟨h18, hg⟩ := chk_o hg
      obtain ⟨x19, h20, hg⟩ := bnd_o hg
      refine rg (Z := Zt) 0 0 [(3, .op (.val (.kp (eI64 (gt l v9))))), (5, .vf (.d (eB x19)))] [.op (xIdA Pg 47 (.d ((eL eI64) l)) (.d (eI64 v9))), .vf 198 [(.d (eU32 v8)), (.d (eI64 (gt l v9)))]] [(0, (.d (eU32 v8))), (1, (.d ((eL eI64) l))), (5, (.d (eI64 v9))), (17, (.d (eB x19)))] [] [] hmx (by kernel_rfl) (good_op (idx_d (s := 1) (b := false) (by_ := 8) (by kernel_rfl) (fun _ => rfl) h18) (good_vf (t_ref03_Has h20) rfl rfl good_nil)) ?_
      rcases Bool.eq_false_or_eq_true x19 with h21 | h21
      · have hg := ite_t hg h21
        refine cd_t h21 (by kernel_rfl) ?_
        obtain ⟨x22, h23, hg⟩ := bnd_o hg
        refine rg (Z := Zt) 0 0 [(3, .op (.val (.kp (eI64 (gt l v9))))), (5, .vf (.d (eU32 x22)))] [.op (xIdA Pg 47 (.d ((eL eI64) l)) (.d (eI64 v9))), .vf 199 [(.d (eI64 (gt l v9)))]] [(0, (.d (eU32 (wU32 (v8 - x22))))), (1, (.d ((eL eI64) l))), (5, (.d (eI64 v9)))] [] [] hmx (by kernel_rfl) (good_op (idx_d (s := 1) (b := false) (by_ := 8) (by kernel_rfl) (fun _ => rfl) h18) (good_vf (t_ref03_pow h23) rfl rfl good_nil)) ?_
        refine rg (Z := Zt) 0 0 [] [] [(0, (.d (eU32 (wU32 (v8 - x22))))), (1, (.d ((eL eI64) l))), (5, (.d (eI64 (wI64 (v9 + (1 : Int))))))] [] [] hmx (by kernel_rfl) good_nil ?_
        exact ⟨n, by omega, (wU32 (v8 - x22)), (wI64 (v9 + (1 : Int))), by omega, hg, (Wk.refl _)⟩
      · have hg := ite_f hg h21
        refine cd_f h21 (by kernel_rfl) ?_
        refine aw_skip ?_
        refine rg (Z := Zt) 0 0 [] [] [(0, (.d (eU32 v8))), (1, (.d ((eL eI64) l))), (5, (.d (eI64 (wI64 (v9 + (1 : Int))))))] [] [] hmx (by kernel_rfl) good_nil ?_
        exact ⟨n, by omega, v8, (wI64 (v9 + (1 : Int))), by omega, hg, (Wk.refl _)⟩
    · have hg := ite_f hg h17
      refine cd_f h17 (by kernel_rfl) ?_
      refine aw_exit ?_
      refine aw_seq ?_
      refine rg (Z := Zt) 0 0 [] [] [(4, (.d (eU32 v8)))] [] [] hmx (by kernel_rfl) good_nil ?_
      refine aw_ret ?_
      have hg := some_o hg
      subst hg
      exact lv_r [true] [] (by kernel_rfl)

/- ref15.Wipe -/
def ref15_Wipe (n : Nat) (s : Store) (i : Int) : Option (Store × Int) :=
  (bif (decide (i < (0 : Int))) then (some (s, (4 : Int))) else (bif (decide (i ≥ s.super.blocks)) then (some (s, (4 : Int))) else (Bnd (ref03_Clear n s.mask ([i] : (List Int))) fun x3 => (bif (x3 == s.mask) then (some (s, (0 : Int))) else (Bnd (ref08_Note n s.disk x3) fun x6 => (bif (x6.2 == (0 : Int)) then (some ((Store.mk x6.1 s.super x3), x6.2)) else (some ((Store.mk x6.1 s.super s.mask), x6.2))))))))
theorem t_ref15_Wipe {n : Nat} {s : Store} {i : Int} {r : (Store × Int)} (hg : ref15_Wipe n s i = some r) : VF Pg 65 [(.d (eStore s)), (.d (eI64 i))] (single [(.d (eStore r.1)), (.d (eI64 r.2))]) := by
  refine fn_ok (fn := Tryz.f65) (by kernel_rfl) rfl (by kernel_rfl) (Nat.le_of_ble_eq_true (by kernel_rfl)) fun B hB => ?_
  refine aw_seq ?_
  refine rg (Z := Zt) 2 0 [] [] [(1, (.d (eI64 i))), (2, (.ptr 0 0)), (4, (.ptr 1 0))] [(.var (.d (eStore s))), (.var (.agg [(.agg [(.full (([] : (List Str)).map eS)), (.full (([] : (List Write)).map eWrite)), (.d (eI64 (0 : Int))), (.d (eB false))]), (.agg [(.d (eI64 (0 : Int))), (.agg [(.d (eU64 (0 : Int))), (.d (eU64 (0 : Int))), (.agg [(.d (eU64 (0 : Int))), (.d (eU64 (0 : Int)))])]), (.d (eB false)), (.d (eB false)), (.d (eB false))]), (.d (eU32 (0 : Int)))]))] [] hmx (by kernel_rfl) good_nil ?_
  refine aw_seq ?_
  refine aw_seq ?_
  rcases Bool.eq_false_or_eq_true (decide (i < (0 : Int))) with h1 | h1
  · have hg := ite_t hg h1
    refine rg (Z := Zt) 0 0 [(2, .op (.val (.d (eB true))))] [.op (some (.val (.d (eB (decide (i < (0 : Int)))))))] [(1, (.d (eI64 i))), (2, (.ptr 0 0)), (4, (.ptr 1 0)), (17, (.d (eB true)))] [(.var (.d (eStore s))), (.var (.agg [(.agg [(.full (([] : (List Str)).map eS)), (.full (([] : (List Write)).map eWrite)), (.d (eI64 (0 : Int))), (.d (eB false))]), (.agg [(.d (eI64 (0 : Int))), (.agg [(.d (eU64 (0 : Int))), (.d (eU64 (0 : Int))), (.agg [(.d (eU64 (0 : Int))), (.d (eU64 (0 : Int)))])]), (.d (eB false)), (.d (eB false)), (.d (eB false))]), (.d (eU32 (0 : Int)))]))] [] hmx (by kernel_rfl) (good_op (bo h1) good_nil) ?_
    refine cd_t rfl (by kernel_rfl) ?_
    refine aw_seq ?_
    refine rg (Z := Zt) 0 0 [] [] [(4, (.ptr 1 0)), (5, (.d (eI64 (4 : Int))))] [(.var (.d (eStore s))), (.var (.d (eStore s)))] [] hmx (by kernel_rfl) good_nil ?_
    refine aw_ret ?_
    have hg := some_o hg
    subst hg
    exact lv_r [true, true] [] (by kernel_rfl)
  · have hg := ite_f hg h1
    refine rg (Z := Zt) 0 0 [(2, .op (.val (.d (eB false))))] [.op (some (.val (.d (eB (decide (i < (0 : Int)))))))] [(1, (.d (eI64 i))), (2, (.ptr 0 0)), (4, (.ptr 1 0)), (17, (.d (eB (decide (i ≥ s.super.blocks)))))] [(.var (.d (eStore s))), (.var (.agg [(.agg [(.full (([] : (List Str)).map eS)), (.full (([] : (List Write)).map eWrite)), (.d (eI64 (0 : Int))), (.d (eB false))]), (.agg [(.d (eI64 (0 : Int))), (.agg [(.d (eU64 (0 : Int))), (.d (eU64 (0 : Int))), (.agg [(.d (eU64 (0 : Int))), (.d (eU64 (0 : Int)))])]), (.d (eB false)), (.d (eB false)), (.d (eB false))]), (.d (eU32 (0 : Int)))]))] [] hmx (by kernel_rfl) (good_op (bo h1) good_nil) ?_
    rcases Bool.eq_false_or_eq_true (decide (i ≥ s.super.blocks)) with h2 | h2
    · have hg := ite_t hg h2
      refine cd_t h2 (by kernel_rfl) ?_
      refine aw_seq ?_
      refine rg (Z := Zt) 0 0 [] [] [(4, (.ptr 1 0)), (5, (.d (eI64 (4 : Int))))] [(.var (.d (eStore s))), (.var (.d (eStore s)))] [] hmx (by kernel_rfl) good_nil ?_
      refine aw_ret ?_
      have hg := some_o hg
      subst hg
      exact lv_r [true, true] [] (by kernel_rfl)
    · have hg := ite_f hg h2
      refine cd_f h2 (by kernel_rfl) ?_
      refine aw_skip ?_
      refine aw_seq ?_
      obtain ⟨x3, h4, hg⟩ := bnd_o hg
      refine rg (Z := Zt) 0 0 [(4, .vf (.d (eU32 x3)))] [.vf 133 [(.d (eU32 s.mask)), (.d ((eL eI64) ([i] : (List Int))))]] [(2, (.ptr 0 0)), (4, (.ptr 1 0)), (6, (.d (eU32 x3)))] [(.var (.d (eStore s))), (.var (.agg [(.agg [(.full (([] : (List Str)).map eS)), (.full (([] : (List Write)).map eWrite)), (.d (eI64 (0 : Int))), (.d (eB false))]), (.agg [(.d (eI64 (0 : Int))), (.agg [(.d (eU64 (0 : Int))), (.d (eU64 (0 : Int))), (.agg [(.d (eU64 (0 : Int))), (.d (eU64 (0 : Int)))])]), (.d (eB false)), (.d (eB false)), (.d (eB false))]), (.d (eU32 (0 : Int)))]))] [] hmx (by kernel_rfl) (good_vf (t_ref03_Clear h4) rfl rfl good_nil) ?_
      refine aw_seq ?_
      refine aw_seq ?_
      refine rg (Z := Zt) 0 0 [] [] [(2, (.ptr 0 0)), (4, (.ptr 1 0)), (6, (.d (eU32 x3))), (27, (.d (eB (x3 == s.mask))))] [(.var (.d (eStore s))), (.var (.agg [(.agg [(.full (([] : (List Str)).map eS)), (.full (([] : (List Write)).map eWrite)), (.d (eI64 (0 : Int))), (.d (eB false))]), (.agg [(.d (eI64 (0 : Int))), (.agg [(.d (eU64 (0 : Int))), (.d (eU64 (0 : Int))), (.agg [(.d (eU64 (0 : Int))), (.d (eU64 (0 : Int)))])]), (.d (eB false)), (.d (eB false)), (.d (eB false))]), (.d (eU32 (0 : Int)))]))] [] hmx (by kernel_rfl) good_nil ?_
      rcases Bool.eq_false_or_eq_true (x3 == s.mask) with h5 | h5
      · have hg := ite_t hg h5
        refine cd_t h5 (by kernel_rfl) ?_
        refine aw_seq ?_
        refine rg (Z := Zt) 0 0 [] [] [(4, (.ptr 1 0)), (5, (.d (eI64 (0 : Int))))] [(.var (.d (eStore s))), (.var (.d (eStore s)))] [] hmx (by kernel_rfl) good_nil ?_
        refine aw_ret ?_
        have hg := some_o hg
        subst hg
        exact lv_r [true, true] [] (by kernel_rfl)
      · have hg := ite_f hg h5
        refine cd_f h5 (by kernel_rfl) ?_
        refine aw_skip ?_
        refine aw_seq ?_
        obtain ⟨x6, h7, hg⟩ := bnd_o hg
        refine rg (Z := Zt) 1 0 [(3, .vf (.tup [(.d (eDisk x6.1)), (.d (eI64 x6.2))]))] [.vf 134 [(.d (eDisk s.disk)), (.d (eU32 x3))]] [(2, (.ptr 0 0)), (4, (.ptr 1 0)), (6, (.d (eU32 x3))), (7, (.ptr 2 0)), (8, (.d (eI64 x6.2)))] [(.var (.d (eStore s))), (.var (.agg [(.agg [(.full (([] : (List Str)).map eS)), (.full (([] : (List Write)).map eWrite)), (.d (eI64 (0 : Int))), (.d (eB false))]), (.agg [(.d (eI64 (0 : Int))), (.agg [(.d (eU64 (0 : Int))), (.d (eU64 (0 : Int))), (.agg [(.d (eU64 (0 : Int))), (.d (eU64 (0 : Int)))])]), (.d (eB false)), (.d (eB false)), (.d (eB false))]), (.d (eU32 (0 : Int)))])), (.var (.d (eDisk x6.1)))] [] hmx (by kernel_rfl) (good_vf (t_ref08_Note h7) rfl rfl good_nil) ?_
        refine aw_seq ?_
        refine rg (Z := Zt) 0 0 [] [] [(2, (.ptr 0 0)), (4, (.ptr 1 0)), (6, (.d (eU32 x3))), (8, (.d (eI64 x6.2)))] [(.var (.d (eStore (Store.mk x6.1 s.super s.mask)))), (.var (.agg [(.agg [(.full (([] : (List Str)).map eS)), (.full (([] : (List Write)).map eWrite)), (.d (eI64 (0 : Int))), (.d (eB false))]), (.agg [(.d (eI64 (0 : Int))), (.agg [(.d (eU64 (0 : Int))), (.d (eU64 (0 : Int))), (.agg [(.d (eU64 (0 : Int))), (.d (eU64 (0 : Int)))])]), (.d (eB false)), (.d (eB false)), (.d (eB false))]), (.d (eU32 (0 : Int)))])), (.var (.d (eDisk x6.1)))] [] hmx (by kernel_rfl) good_nil ?_
        refine aw_seq ?_
        refine aw_seq ?_
        refine rg (Z := Zt) 0 0 [] [] [(2, (.ptr 0 0)), (4, (.ptr 1 0)), (6, (.d (eU32 x3))), (8, (.d (eI64 x6.2))), (39, (.d (eB (x6.2 == (0 : Int)))))] [(.var (.d (eStore (Store.mk x6.1 s.super s.mask)))), (.var (.agg [(.agg [(.full (([] : (List Str)).map eS)), (.full (([] : (List Write)).map eWrite)), (.d (eI64 (0 : Int))), (.d (eB false))]), (.agg [(.d (eI64 (0 : Int))), (.agg [(.d (eU64 (0 : Int))), (.d (eU64 (0 : Int))), (.agg [(.d (eU64 (0 : Int))), (.d (eU64 (0 : Int)))])]), (.d (eB false)), (.d (eB false)), (.d (eB false))]), (.d (eU32 (0 : Int)))])), (.var (.d (eDisk x6.1)))] [] hmx (by kernel_rfl) good_nil ?_
        rcases Bool.eq_false_or_eq_true (x6.2 == (0 : Int)) with h8 | h8
        · have hg := ite_t hg h8
          refine cd_t h8 (by kernel_rfl) ?_
          refine rg (Z := Zt) 0 0 [] [] [(2, (.ptr 0 0)), (4, (.ptr 1 0)), (8, (.d (eI64 x6.2)))] [(.var (.d (eStore (Store.mk x6.1 s.super x3)))), (.var (.agg [(.agg [(.full (([] : (List Str)).map eS)), (.full (([] : (List Write)).map eWrite)), (.d (eI64 (0 : Int))), (.d (eB false))]), (.agg [(.d (eI64 (0 : Int))), (.agg [(.d (eU64 (0 : Int))), (.d (eU64 (0 : Int))), (.agg [(.d (eU64 (0 : Int))), (.d (eU64 (0 : Int)))])]), (.d (eB false)), (.d (eB false)), (.d (eB false))]), (.d (eU32 (0 : Int)))])), (.var (.d (eDisk x6.1)))] [] hmx (by kernel_rfl) good_nil ?_
          refine aw_seq ?_
          refine rg (Z := Zt) 0 0 [] [] [(4, (.ptr 1 0)), (5, (.d (eI64 x6.2)))] [(.var (.d (eStore (Store.mk x6.1 s.super x3)))), (.var (.d (eStore (Store.mk x6.1 s.super x3)))), (.var (.d (eDisk x6.1)))] [] hmx (by kernel_rfl) good_nil ?_
          refine aw_ret ?_
          have hg := some_o hg
          subst hg
          exact lv_r [true, true] [] (by kernel_rfl)
        · have hg := ite_f hg h8
          refine cd_f h8 (by kernel_rfl) ?_
          refine aw_skip ?_
          refine aw_seq ?_
          refine rg (Z := Zt) 0 0 [] [] [(4, (.ptr 1 0)), (5, (.d (eI64 x6.2)))] [(.var (.d (eStore (Store.mk x6.1 s.super s.mask)))), (.var (.d (eStore (Store.mk x6.1 s.super s.mask)))), (.var (.d (eDisk x6.1)))] [] hmx (by kernel_rfl) good_nil ?_
          refine aw_ret ?_
          have hg := some_o hg
          subst hg
          exact lv_r [true, true] [] (by kernel_rfl)

/- ref03.List -/
def ref03_List_L1 (n : Nat) (m : Int) (v4 : (List Int)) (v5 : Int) : Option (List Int) :=
  match n with
  | 0 => none
  | n + 1 => (bif (decide (v5 < (32 : Int))) then (Bnd (ref03_Has n m v5) fun x12 => (bif x12 then (Chk (appOK v4.length 1 8) (ref03_List_L1 n m (v4 ++ ([v5] : (List Int))) (wI64 (v5 + (1 : Int))))) else (ref03_List_L1 n m v4 (wI64 (v5 + (1 : Int)))))) else (some v4))
def ref03_List (n : Nat) (m : Int) : Option (List Int) :=
  (ref03_List_L1 n m ([] : (List Int)) (0 : Int))
theorem t_ref03_List {n : Nat} {m : Int} {r : (List Int)} (hg : ref03_List n m = some r) : VF Pg 201 [(.d (eU32 m))] (single [(.d ((eL eI64) r))]) := by
  refine fn_ok (fn := Tryz.f201) (by kernel_rfl) rfl (by kernel_rfl) (Nat.le_of_ble_eq_true (by kernel_rfl)) fun B hB => ?_
  refine aw_seq ?_
  refine rg (Z := Zt) 0 0 [] [] [(0, (.d (eU32 m)))] [] [] hmx (by kernel_rfl) good_nil ?_
  refine aw_seq ?_
  refine rg (Z := Zt) 0 0 [] [] [(0, (.d (eU32 m))), (3, (.full (([] : (List Int)).map eI64)))] [] [] hmx (by kernel_rfl) good_nil ?_
  refine aw_seq ?_
  refine aw_seq ?_
  refine rg (Z := Zt) 0 0 [] [] [(0, (.d (eU32 m))), (3, (.full (([] : (List Int)).map eI64))), (4, (.d (eI64 (0 : Int))))] [] [] hmx (by kernel_rfl) good_nil ?_
  refine aw_block ?_
  refine aw_loop (fun μ σ => ∃ (v4 : (List Int)) (v5 : Int), μ ≤ n ∧ ref03_List_L1 μ m v4 v5 = some r ∧ Wk B σ (st Tryz.f201.ntmps [(0, (.d (eU32 m))), (3, (.own (v4.map eI64) 0)), (4, (.d (eI64 v5)))] [] [(some v4.length)])) n ⟨([] : (List Int)), (0 : Int), Nat.le_refl _, hg, (Wk.trans (wk_room 1) (wk_adopt (l := [(0, (.d (eU32 m))), (3, (.own (([] : (List Int)).map eI64) 0)), (4, (.d (eI64 (0 : Int))))]) (k := [(some 0)]) 3 0 (([] : (List Int)).map eI64) (by kernel_rfl)))⟩ ?_
  rintro μ σ ⟨v4, v5, hle, hg, hwk⟩
  refine aw_wk hwk ?_
  clear hwk
  cases μ with
  | zero => exact absurd (show none = some r from hg) (by simp)
  | succ n =>
    refine aw_seq ?_
    refine aw_seq ?_
    refine rg (Z := Zt) 0 0 [] [] [(0, (.d (eU32 m))), (3, (.own (v4.map eI64) 0)), (4, (.d (eI64 v5))), (6, (.d (eB (decide (v5 < (32 : Int))))))] [] [(some v4.length)] hmx (by kernel_rfl) good_nil ?_
    rcases Bool.eq_false_or_eq_true (decide (v5 < (32 : Int))) with h11 | h11
    · have hg := ite_t hg h11
      refine cd_t h11 (by kernel_rfl) ?_
      refine aw_skip ?_
      refine aw_seq ?_
      refine aw_block ?_
      refine aw_seq ?_
      obtain ⟨x12, h13, hg⟩ := bnd_o hg
      refine rg (Z := Zt) 0 0 [(2, .vf (.d (eB x12)))] [.vf 198 [(.d (eU32 m)), (.d (eI64 v5))]] [(0, (.d (eU32 m))), (3, (.own (v4.map eI64) 0)), (4, (.d (eI64 v5))), (11, (.d (eB x12)))] [] [(some v4.length)] hmx (by kernel_rfl) (good_vf (t_ref03_Has h13) rfl rfl good_nil) ?_
      rcases Bool.eq_false_or_eq_true x12 with h14 | h14
      · have hg := ite_t hg h14
        refine cd_t h14 (by kernel_rfl) ?_
        obtain ⟨h15, hg⟩ := chk_o hg
        refine rg (Z := Zt) 0 1 [(3, .op (.tok 0 (v4 ++ ([v5] : (List Int))).length (.own ((v4 ++ ([v5] : (List Int))).map eI64) 0)))] [.op (evBuiltin Pg .append [47, 47] [(.own (v4.map eI64) 0), (.full (([v5] : (List Int)).map eI64))] [(some v4.length), none] 1)] [(0, (.d (eU32 m))), (3, (.own ((v4 ++ ([v5] : (List Int))).map eI64) 0)), (4, (.d (eI64 v5)))] [] [(some (v4 ++ ([v5] : (List Int))).length), none] hmx (by kernel_rfl) (good_op (app_own (s := 1) (b := false) (by_ := 8) (s' := 1) (b' := false) (y' := 8) (l := v4) (m := ([v5] : (List Int))) (f := eI64) (by kernel_rfl) (by kernel_rfl) (by kernel_rfl) (by decide) (fun _ => rfl) rfl rfl h15) good_nil) ?_
        refine rg (Z := Zt) 0 0 [] [] [(0, (.d (eU32 m))), (3, (.own ((v4 ++ ([v5] : (List Int))).map eI64) 0)), (4, (.d (eI64 (wI64 (v5 + (1 : Int))))))] [] [(some (v4 ++ ([v5] : (List Int))).length), none] hmx (by kernel_rfl) good_nil ?_
        exact ⟨n, by omega, (v4 ++ ([v5] : (List Int))), (wI64 (v5 + (1 : Int))), by omega, hg, (wk_cut (l := [(0, (.d (eU32 m))), (3, (.own ((v4 ++ ([v5] : (List Int))).map eI64) 0)), (4, (.d (eI64 (wI64 (v5 + (1 : Int))))))]) (h := []) (k := [(some (v4 ++ ([v5] : (List Int))).length)]) hB 0 1 (by kernel_rfl) (by kernel_rfl))⟩
      · have hg := ite_f hg h14
        refine cd_f h14 (by kernel_rfl) ?_
        refine aw_skip ?_
        refine rg (Z := Zt) 0 0 [] [] [(0, (.d (eU32 m))), (3, (.own (v4.map eI64) 0)), (4, (.d (eI64 (wI64 (v5 + (1 : Int))))))] [] [(some v4.length)] hmx (by kernel_rfl) good_nil ?_
        exact ⟨n, by omega, v4, (wI64 (v5 + (1 : Int))), by omega, hg, (Wk.refl _)⟩
    · have hg := ite_f hg h11
      refine cd_f h11 (by kernel_rfl) ?_
      refine aw_exit ?_
      refine aw_seq ?_
      refine rg (Z := Zt) 0 0 [] [] [(2, (.own (v4.map eI64) 0))] [] [(some v4.length)] hmx (by kernel_rfl) good_nil ?_
      refine aw_ret ?_
      have hg := some_o hg
      subst hg
      exact lv_r [true] [] (by kernel_rfl)

/- ref03.Union -/
def ref03_Union_L1 (n : Nat) (l : (List Int)) (v7 : Int) (v8 : Int) : Option Int :=
  match n with
  | 0 => none
  | n + 1 => (bif (decide (v8 < (l.length : Int))) then (Chk (inR v8 l.length) (Bnd (ref03_List n (gt l v8)) fun x17 => (Bnd (ref03_Set n v7 x17) fun x19 => (ref03_Union_L1 n l x19 (wI64 (v8 + (1 : Int))))))) else (some v7))
def ref03_Union (n : Nat) (l : (List Int)) : Option Int :=
  (ref03_Union_L1 n l (0 : Int) (0 : Int))
theorem t_ref03_Union {n : Nat} {l : (List Int)} {r : Int} (hg : ref03_Union n l = some r) : VF Pg 135 [(.d ((eL eU32) l))] (single [(.d (eU32 r))]) := by
  refine fn_ok (fn := Tryz.f135) (by kernel_rfl) rfl (by kernel_rfl) (Nat.le_of_ble_eq_true (by kernel_rfl)) fun B hB => ?_
  refine aw_seq ?_
  refine rg (Z := Zt) 0 0 [] [] [(0, (.d ((eL eU32) l)))] [] [] hmx (by kernel_rfl) good_nil ?_
  refine aw_seq ?_
  refine rg (Z := Zt) 0 0 [] [] [(0, (.d ((eL eU32) l))), (3, (.d (eU32 (0 : Int))))] [] [] hmx (by kernel_rfl) good_nil ?_
  refine aw_seq ?_
  refine aw_seq ?_
  refine rg (Z := Zt) 0 0 [] [] [(0, (.d ((eL eU32) l))), (3, (.d (eU32 (0 : Int)))), (4, (.d (eI64 (0 : Int))))] [] [] hmx (by kernel_rfl) good_nil ?_
  refine aw_block ?_
  refine aw_loop (fun μ σ => ∃ (v7 : Int) (v8 : Int), μ ≤ n ∧ ref03_Union_L1 μ l v7 v8 = some r ∧ Wk B σ (st Tryz.f135.ntmps [(0, (.d ((eL eU32) l))), (3, (.d (eU32 v7))), (4, (.d (eI64 v8)))] [] [])) n ⟨(0 : Int), (0 : Int), Nat.le_refl _, hg, (Wk.refl _)⟩ ?_
  rintro μ σ ⟨v7, v8, hle, hg, hwk⟩
  refine aw_wk hwk ?_
  clear hwk
  cases μ with
  | zero => exact absurd (show none = some r from hg) (by simp)
  | succ n =>
    refine aw_seq ?_
    refine aw_seq ?_
    refine rg (Z := Zt) 0 0 [(2, .op (.val (.d (eI64 (l.length : Int)))))] [.op (xLen Pg 174 (.d ((eL eU32) l)))] [(0, (.d ((eL eU32) l))), (3, (.d (eU32 v7))), (4, (.d (eI64 v8))), (8, (.d (eB (decide (v8 < (l.length : Int))))))] [] [] hmx (by kernel_rfl) (good_op (len_d (e := 35) (by kernel_rfl)) good_nil) ?_
    rcases Bool.eq_false_or_eq_true (decide (v8 < (l.length : Int))) with h15 | h15
    · have hg := ite_t hg h15
      refine cd_t h15 (by kernel_rfl) ?_
      refine aw_skip ?_
      refine aw_seq ?_
      refine aw_block ?_
      obtain ⟨h16, hg⟩ := chk_o hg
      obtain ⟨x17, h18, hg⟩ := bnd_o hg
      obtain ⟨x19, h20, hg⟩ := bnd_o hg
      refine rg (Z := Zt) 0 0 [(3, .op (.val (.kp (eU32 (gt l v8))))), (5, .vf (.d ((eL eI64) x17))), (6, .vf (.d (eU32 x19)))] [.op (xIdA Pg 174 (.d ((eL eU32) l)) (.d (eI64 v8))), .vf 201 [(.d (eU32 (gt l v8)))], .vf 132 [(.d (eU32 v7)), (.d ((eL eI64) x17))]] [(0, (.d ((eL eU32) l))), (3, (.d (eU32 x19))), (4, (.d (eI64 v8)))] [] [] hmx (by kernel_rfl) (good_op (idx_d (s := 1) (b := false) (by_ := 4) (by kernel_rfl) (fun _ => rfl) h16) (good_vf (t_ref03_List h18) rfl rfl (good_vf (t_ref03_Set h20) rfl rfl good_nil))) ?_
      refine rg (Z := Zt) 0 0 [] [] [(0, (.d ((eL eU32) l))), (3, (.d (eU32 x19))), (4, (.d (eI64 (wI64 (v8 + (1 : Int))))))] [] [] hmx (by kernel_rfl) good_nil ?_
      exact ⟨n, by omega, x19, (wI64 (v8 + (1 : Int))), by omega, hg, (Wk.refl _)⟩
    · have hg := ite_f hg h15
      refine cd_f h15 (by kernel_rfl) ?_
      refine aw_exit ?_
      refine aw_seq ?_
      refine rg (Z := Zt) 0 0 [] [] [(2, (.d (eU32 v7)))] [] [] hmx (by kernel_rfl) good_nil ?_
      refine aw_ret ?_
      have hg := some_o hg
      subst hg
      exact lv_r [true] [] (by kernel_rfl)

/- ref15.Join -/
def ref15_Join (n : Nat) (s : Store) (m : Int) : Option (Store × Int) :=
  (Bnd (ref03_Union n ([s.mask, m] : (List Int))) fun x1 => (Bnd (ref15_save n s x1) fun x3 => (some (x3.1, x3.2))))
theorem t_ref15_Join {n : Nat} {s : Store} {m : Int} {r : (Store × Int)} (hg : ref15_Join n s m = some r) : VF Pg 66 [(.d (eStore s)), (.d (eU32 m))] (single [(.d (eStore r.1)), (.d (eI64 r.2))]) := by
  refine fn_ok (fn := Tryz.f66) (by kernel_rfl) rfl (by kernel_rfl) (Nat.le_of_ble_eq_true (by kernel_rfl)) fun B hB => ?_
  refine aw_seq ?_
  refine rg (Z := Zt) 2 0 [] [] [(1, (.d (eU32 m))), (2, (.ptr 0 0)), (4, (.ptr 1 0))] [(.var (.d (eStore s))), (.var (.agg [(.agg [(.full (([] : (List Str)).map eS)), (.full (([] : (List Write)).map eWrite)), (.d (eI64 (0 : Int))), (.d (eB false))]), (.agg [(.d (eI64 (0 : Int))), (.agg [(.d (eU64 (0 : Int))), (.d (eU64 (0 : Int))), (.agg [(.d (eU64 (0 : Int))), (.d (eU64 (0 : Int)))])]), (.d (eB false)), (.d (eB false)), (.d (eB false))]), (.d (eU32 (0 : Int)))]))] [] hmx (by kernel_rfl) good_nil ?_
  refine aw_seq ?_
  obtain ⟨x1, h2, hg⟩ := bnd_o hg
  obtain ⟨x3, h4, hg⟩ := bnd_o hg
  refine rg (Z := Zt) 0 0 [(5, .vf (.d (eU32 x1))), (6, .vf (.tup [(.d (eStore x3.1)), (.d (eI64 x3.2))]))] [.vf 135 [(.d ((eL eU32) ([s.mask, m] : (List Int))))], .vf 131 [(.d (eStore s)), (.d (eU32 x1))]] [(4, (.ptr 1 0)), (5, (.d (eI64 x3.2)))] [(.var (.d (eStore s))), (.var (.d (eStore x3.1)))] [] hmx (by kernel_rfl) (good_vf (t_ref03_Union h2) rfl rfl (good_vf (t_ref15_save h4) rfl rfl good_nil)) ?_
  refine aw_ret ?_
  have hg := some_o hg
  subst hg
  exact lv_r [true, true] [] (by kernel_rfl)

/- ref09.Put -/
def ref09_Put (n : Nat) (d : Disk) (i : Int) (data : Str) : Option (Disk × Int) :=
  (Let (ref09_there d i) fun x1 => (bif (!x1) then (some (d, (4 : Int))) else (bif ((data.length : Int) != (8 : Int)) then (some (d, (5 : Int))) else (Bnd (ref04_Write d (wI64 (i + (2 : Int))) data) fun x5 => (bif (x5.2 != (0 : Int)) then (some (x5.1, x5.2)) else (Bnd (ref04_Flush n x5.1) fun x8 => (some (x8.1, x8.2))))))))
theorem t_ref09_Put {n : Nat} {d : Disk} {i : Int} {data : Str} {r : (Disk × Int)} (hg : ref09_Put n d i data = some r) : VF Pg 136 [(.d (eDisk d)), (.d (eI64 i)), (.d (eS data))] (single [(.d (eDisk r.1)), (.d (eI64 r.2))]) := by
  refine fn_ok (fn := Tryz.f136) (by kernel_rfl) rfl (by kernel_rfl) (Nat.le_of_ble_eq_true (by kernel_rfl)) fun B hB => ?_
  refine aw_seq ?_
  refine rg (Z := Zt) 2 0 [] [] [(1, (.d (eI64 i))), (2, (.d (eS data))), (3, (.ptr 0 0)), (6, (.ptr 1 0))] [(.var (.d (eDisk d))), (.var (.agg [(.full (([] : (List Str)).map eS)), (.full (([] : (List Write)).map eWrite)), (.d (eI64 (0 : Int))), (.d (eB false))]))] [] hmx (by kernel_rfl) good_nil ?_
  refine aw_seq ?_
  refine aw_seq ?_
  obtain ⟨x1, h2, hg⟩ := let_o hg
  refine rg (Z := Zt) 0 0 [(2, .vf (.d (eB x1)))] [.vf 184 [(.d (eDisk d)), (.d (eI64 i))]] [(1, (.d (eI64 i))), (2, (.d (eS data))), (3, (.ptr 0 0)), (6, (.ptr 1 0)), (13, (.d (eB (!x1))))] [(.var (.d (eDisk d))), (.var (.agg [(.full (([] : (List Str)).map eS)), (.full (([] : (List Write)).map eWrite)), (.d (eI64 (0 : Int))), (.d (eB false))]))] [] hmx (by kernel_rfl) (good_vf (t_ref09_there h2) rfl rfl good_nil) ?_
  rcases Bool.eq_false_or_eq_true (!x1) with h3 | h3
  · have hg := ite_t hg h3
    refine cd_t h3 (by kernel_rfl) ?_
    refine aw_seq ?_
    refine rg (Z := Zt) 0 0 [] [] [(6, (.ptr 1 0)), (7, (.d (eI64 (4 : Int))))] [(.var (.d (eDisk d))), (.var (.d (eDisk d)))] [] hmx (by kernel_rfl) good_nil ?_
    refine aw_ret ?_
    have hg := some_o hg
    subst hg
    exact lv_r [true, true] [] (by kernel_rfl)
  · have hg := ite_f hg h3
    refine cd_f h3 (by kernel_rfl) ?_
    refine aw_skip ?_
    refine aw_seq ?_
    refine aw_seq ?_
    refine rg (Z := Zt) 0 0 [] [] [(1, (.d (eI64 i))), (2, (.d (eS data))), (3, (.ptr 0 0)), (6, (.ptr 1 0)), (17, (.d (eB ((data.length : Int) != (8 : Int)))))] [(.var (.d (eDisk d))), (.var (.agg [(.full (([] : (List Str)).map eS)), (.full (([] : (List Write)).map eWrite)), (.d (eI64 (0 : Int))), (.d (eB false))]))] [] hmx (by kernel_rfl) good_nil ?_
    rcases Bool.eq_false_or_eq_true ((data.length : Int) != (8 : Int)) with h4 | h4
    · have hg := ite_t hg h4
      refine cd_t h4 (by kernel_rfl) ?_
      refine aw_seq ?_
      refine rg (Z := Zt) 0 0 [] [] [(6, (.ptr 1 0)), (7, (.d (eI64 (5 : Int))))] [(.var (.d (eDisk d))), (.var (.d (eDisk d)))] [] hmx (by kernel_rfl) good_nil ?_
      refine aw_ret ?_
      have hg := some_o hg
      subst hg
      exact lv_r [true, true] [] (by kernel_rfl)
    · have hg := ite_f hg h4
      refine cd_f h4 (by kernel_rfl) ?_
      refine aw_skip ?_
      refine aw_seq ?_
      obtain ⟨x5, h6, hg⟩ := bnd_o hg
      refine rg (Z := Zt) 1 0 [(4, .vf (.tup [(.d (eDisk x5.1)), (.d (eI64 x5.2))]))] [.vf 200 [(.d (eDisk d)), (.d (eI64 (wI64 (i + (2 : Int))))), (.d (eS data))]] [(6, (.ptr 1 0)), (8, (.ptr 2 0)), (9, (.d (eI64 x5.2)))] [(.var (.d (eDisk d))), (.var (.agg [(.full (([] : (List Str)).map eS)), (.full (([] : (List Write)).map eWrite)), (.d (eI64 (0 : Int))), (.d (eB false))])), (.var (.d (eDisk x5.1)))] [] hmx (by kernel_rfl) (good_vf (t_ref04_Write h6) rfl rfl good_nil) ?_
      refine aw_seq ?_
      refine aw_seq ?_
      refine rg (Z := Zt) 0 0 [] [] [(6, (.ptr 1 0)), (8, (.ptr 2 0)), (9, (.d (eI64 x5.2))), (28, (.d (eB (x5.2 != (0 : Int)))))] [(.var (.d (eDisk d))), (.var (.agg [(.full (([] : (List Str)).map eS)), (.full (([] : (List Write)).map eWrite)), (.d (eI64 (0 : Int))), (.d (eB false))])), (.var (.d (eDisk x5.1)))] [] hmx (by kernel_rfl) good_nil ?_
      rcases Bool.eq_false_or_eq_true (x5.2 != (0 : Int)) with h7 | h7
      · have hg := ite_t hg h7
        refine cd_t h7 (by kernel_rfl) ?_
        refine aw_seq ?_
        refine rg (Z := Zt) 0 0 [] [] [(6, (.ptr 1 0)), (7, (.d (eI64 x5.2)))] [(.var (.d (eDisk d))), (.var (.d (eDisk x5.1))), (.var (.d (eDisk x5.1)))] [] hmx (by kernel_rfl) good_nil ?_
        refine aw_ret ?_
        have hg := some_o hg
        subst hg
        exact lv_r [true, true] [] (by kernel_rfl)
      · have hg := ite_f hg h7
        refine cd_f h7 (by kernel_rfl) ?_
        refine aw_skip ?_
        refine aw_seq ?_
        obtain ⟨x8, h9, hg⟩ := bnd_o hg
        refine rg (Z := Zt) 0 0 [(1, .vf (.tup [(.d (eDisk x8.1)), (.d (eI64 x8.2))]))] [.vf 202 [(.d (eDisk x5.1))]] [(6, (.ptr 1 0)), (7, (.d (eI64 x8.2)))] [(.var (.d (eDisk d))), (.var (.d (eDisk x8.1))), (.var (.d (eDisk x5.1)))] [] hmx (by kernel_rfl) (good_vf (t_ref04_Flush h9) rfl rfl good_nil) ?_
        refine aw_ret ?_
        have hg := some_o hg
        subst hg
        exact lv_r [true, true] [] (by kernel_rfl)

/- ref15.Put -/
def ref15_Put (n : Nat) (s : Store) (i : Int) (data : Str) : Option (Store × Int) :=
  (Bnd (ref09_Put n s.disk i data) fun x1 => (some ((Store.mk x1.1 s.super s.mask), x1.2)))
theorem t_ref15_Put {n : Nat} {s : Store} {i : Int} {data : Str} {r : (Store × Int)} (hg : ref15_Put n s i data = some r) : VF Pg 67 [(.d (eStore s)), (.d (eI64 i)), (.d (eS data))] (single [(.d (eStore r.1)), (.d (eI64 r.2))]) := by
  refine fn_ok (fn := Tryz.f67) (by kernel_rfl) rfl (by kernel_rfl) (Nat.le_of_ble_eq_true (by kernel_rfl)) fun B hB => ?_
  refine aw_seq ?_
  refine rg (Z := Zt) 2 0 [] [] [(1, (.d (eI64 i))), (2, (.d (eS data))), (3, (.ptr 0 0)), (6, (.ptr 1 0))] [(.var (.d (eStore s))), (.var (.agg [(.agg [(.full (([] : (List Str)).map eS)), (.full (([] : (List Write)).map eWrite)), (.d (eI64 (0 : Int))), (.d (eB false))]), (.agg [(.d (eI64 (0 : Int))), (.agg [(.d (eU64 (0 : Int))), (.d (eU64 (0 : Int))), (.agg [(.d (eU64 (0 : Int))), (.d (eU64 (0 : Int)))])]), (.d (eB false)), (.d (eB false)), (.d (eB false))]), (.d (eU32 (0 : Int)))]))] [] hmx (by kernel_rfl) good_nil ?_
  refine aw_seq ?_
  obtain ⟨x1, h2, hg⟩ := bnd_o hg
  refine rg (Z := Zt) 1 0 [(4, .vf (.tup [(.d (eDisk x1.1)), (.d (eI64 x1.2))]))] [.vf 136 [(.d (eDisk s.disk)), (.d (eI64 i)), (.d (eS data))]] [(3, (.ptr 0 0)), (6, (.ptr 1 0)), (8, (.ptr 2 0)), (9, (.d (eI64 x1.2)))] [(.var (.d (eStore s))), (.var (.agg [(.agg [(.full (([] : (List Str)).map eS)), (.full (([] : (List Write)).map eWrite)), (.d (eI64 (0 : Int))), (.d (eB false))]), (.agg [(.d (eI64 (0 : Int))), (.agg [(.d (eU64 (0 : Int))), (.d (eU64 (0 : Int))), (.agg [(.d (eU64 (0 : Int))), (.d (eU64 (0 : Int)))])]), (.d (eB false)), (.d (eB false)), (.d (eB false))]), (.d (eU32 (0 : Int)))])), (.var (.d (eDisk x1.1)))] [] hmx (by kernel_rfl) (good_vf (t_ref09_Put h2) rfl rfl good_nil) ?_
  refine aw_seq ?_
  refine rg (Z := Zt) 0 0 [] [] [(3, (.ptr 0 0)), (6, (.ptr 1 0)), (9, (.d (eI64 x1.2)))] [(.var (.d (eStore (Store.mk x1.1 s.super s.mask)))), (.var (.agg [(.agg [(.full (([] : (List Str)).map eS)), (.full (([] : (List Write)).map eWrite)), (.d (eI64 (0 : Int))), (.d (eB false))]), (.agg [(.d (eI64 (0 : Int))), (.agg [(.d (eU64 (0 : Int))), (.d (eU64 (0 : Int))), (.agg [(.d (eU64 (0 : Int))), (.d (eU64 (0 : Int)))])]), (.d (eB false)), (.d (eB false)), (.d (eB false))]), (.d (eU32 (0 : Int)))])), (.var (.d (eDisk x1.1)))] [] hmx (by kernel_rfl) good_nil ?_
  refine aw_seq ?_
  refine rg (Z := Zt) 0 0 [] [] [(6, (.ptr 1 0)), (7, (.d (eI64 x1.2)))] [(.var (.d (eStore (Store.mk x1.1 s.super s.mask)))), (.var (.d (eStore (Store.mk x1.1 s.super s.mask)))), (.var (.d (eDisk x1.1)))] [] hmx (by kernel_rfl) good_nil ?_
  refine aw_ret ?_
  have hg := some_o hg
  subst hg
  exact lv_r [true, true] [] (by kernel_rfl)

/- ref07.Commit -/
def ref07_Commit (n : Nat) (d : Disk) (s : Super) : Option (Disk × Int) :=
  (Bnd (ref06_Encode n s) fun x1 => (bif (x1.2 != (0 : Int)) then (some (d, (1 : Int))) else (Let (ref07_Fits d s) fun x4 => (bif (!x4) then (some (d, (1 : Int))) else (Bnd (ref04_Write d (0 : Int) x1.1) fun x7 => (bif (x7.2 != (0 : Int)) then (some (x7.1, x7.2)) else (Bnd (ref04_Flush n x7.1) fun x10 => (some (x10.1, x10.2)))))))))
theorem t_ref07_Commit {n : Nat} {d : Disk} {s : Super} {r : (Disk × Int)} (hg : ref07_Commit n d s = some r) : VF Pg 137 [(.d (eDisk d)), (.d (eSuper s))] (single [(.d (eDisk r.1)), (.d (eI64 r.2))]) := by
  refine fn_ok (fn := Tryz.f137) (by kernel_rfl) rfl (by kernel_rfl) (Nat.le_of_ble_eq_true (by kernel_rfl)) fun B hB => ?_
  refine aw_seq ?_
  refine rg (Z := Zt) 3 0 [] [] [(2, (.ptr 0 0)), (3, (.ptr 1 0)), (4, (.ptr 2 0))] [(.var (.d (eDisk d))), (.var (.d (eSuper s))), (.var (.agg [(.full (([] : (List Str)).map eS)), (.full (([] : (List Write)).map eWrite)), (.d (eI64 (0 : Int))), (.d (eB false))]))] [] hmx (by kernel_rfl) good_nil ?_
  refine aw_seq ?_
  obtain ⟨x1, h2, hg⟩ := bnd_o hg
  refine rg (Z := Zt) 0 0 [(1, .vf (.tup [(.d (eS x1.1)), (.d (eI64 x1.2))]))] [.vf 125 [(.d (eSuper s))]] [(2, (.ptr 0 0)), (3, (.ptr 1 0)), (4, (.ptr 2 0)), (6, (.d (eS x1.1))), (7, (.d (eI64 x1.2)))] [(.var (.d (eDisk d))), (.var (.d (eSuper s))), (.var (.agg [(.full (([] : (List Str)).map eS)), (.full (([] : (List Write)).map eWrite)), (.d (eI64 (0 : Int))), (.d (eB false))]))] [] hmx (by kernel_rfl) (good_vf (t_ref06_Encode h2) rfl rfl good_nil) ?_
  refine aw_seq ?_
  refine aw_seq ?_
  rcases Bool.eq_false_or_eq_true (x1.2 != (0 : Int)) with h3 | h3
  · have hg := ite_t hg h3
    refine rg (Z := Zt) 0 0 [(2, .op (.val (.d (eB true))))] [.op (some (.val (.d (eB (x1.2 != (0 : Int))))))] [(2, (.ptr 0 0)), (4, (.ptr 2 0)), (6, (.d (eS x1.1))), (21, (.d (eB true)))] [(.var (.d (eDisk d))), (.var (.d (eSuper s))), (.var (.agg [(.full (([] : (List Str)).map eS)), (.full (([] : (List Write)).map eWrite)), (.d (eI64 (0 : Int))), (.d (eB false))]))] [] hmx (by kernel_rfl) (good_op (bo h3) good_nil) ?_
    refine cd_t rfl (by kernel_rfl) ?_
    refine aw_seq ?_
    refine rg (Z := Zt) 0 0 [] [] [(4, (.ptr 2 0)), (5, (.d (eI64 (1 : Int))))] [(.var (.d (eDisk d))), (.var (.d (eSuper s))), (.var (.d (eDisk d)))] [] hmx (by kernel_rfl) good_nil ?_
    refine aw_ret ?_
    have hg := some_o hg
    subst hg
    exact lv_r [true, true] [] (by kernel_rfl)
  · have hg := ite_f hg h3
    obtain ⟨x4, h5, hg⟩ := let_o hg
    refine rg (Z := Zt) 0 0 [(2, .op (.val (.d (eB false)))), (5, .vf (.d (eB x4)))] [.op (some (.val (.d (eB (x1.2 != (0 : Int)))))), .vf 194 [(.d (eDisk d)), (.d (eSuper s))]] [(2, (.ptr 0 0)), (4, (.ptr 2 0)), (6, (.d (eS x1.1))), (21, (.d (eB (!x4))))] [(.var (.d (eDisk d))), (.var (.d (eSuper s))), (.var (.agg [(.full (([] : (List Str)).map eS)), (.full (([] : (List Write)).map eWrite)), (.d (eI64 (0 : Int))), (.d (eB false))]))] [] hmx (by kernel_rfl) (good_op (bo h3) (good_vf (t_ref07_Fits h5) rfl rfl good_nil)) ?_
    rcases Bool.eq_false_or_eq_true (!x4) with h6 | h6
    · have hg := ite_t hg h6
      refine cd_t h6 (by kernel_rfl) ?_
      refine aw_seq ?_
      refine rg (Z := Zt) 0 0 [] [] [(4, (.ptr 2 0)), (5, (.d (eI64 (1 : Int))))] [(.var (.d (eDisk d))), (.var (.d (eSuper s))), (.var (.d (eDisk d)))] [] hmx (by kernel_rfl) good_nil ?_
      refine aw_ret ?_
      have hg := some_o hg
      subst hg
      exact lv_r [true, true] [] (by kernel_rfl)
    · have hg := ite_f hg h6
      refine cd_f h6 (by kernel_rfl) ?_
      refine aw_skip ?_
      refine aw_seq ?_
      obtain ⟨x7, h8, hg⟩ := bnd_o hg
      refine rg (Z := Zt) 1 0 [(2, .vf (.tup [(.d (eDisk x7.1)), (.d (eI64 x7.2))]))] [.vf 200 [(.d (eDisk d)), (.d (eI64 (0 : Int))), (.d (eS x1.1))]] [(4, (.ptr 2 0)), (7, (.d (eI64 x7.2))), (8, (.ptr 3 0))] [(.var (.d (eDisk d))), (.var (.d (eSuper s))), (.var (.agg [(.full (([] : (List Str)).map eS)), (.full (([] : (List Write)).map eWrite)), (.d (eI64 (0 : Int))), (.d (eB false))])), (.var (.d (eDisk x7.1)))] [] hmx (by kernel_rfl) (good_vf (t_ref04_Write h8) rfl rfl good_nil) ?_
      refine aw_seq ?_
      refine aw_seq ?_
      refine rg (Z := Zt) 0 0 [] [] [(4, (.ptr 2 0)), (7, (.d (eI64 x7.2))), (8, (.ptr 3 0)), (30, (.d (eB (x7.2 != (0 : Int)))))] [(.var (.d (eDisk d))), (.var (.d (eSuper s))), (.var (.agg [(.full (([] : (List Str)).map eS)), (.full (([] : (List Write)).map eWrite)), (.d (eI64 (0 : Int))), (.d (eB false))])), (.var (.d (eDisk x7.1)))] [] hmx (by kernel_rfl) good_nil ?_
      rcases Bool.eq_false_or_eq_true (x7.2 != (0 : Int)) with h9 | h9
      · have hg := ite_t hg h9
        refine cd_t h9 (by kernel_rfl) ?_
        refine aw_seq ?_
        refine rg (Z := Zt) 0 0 [] [] [(4, (.ptr 2 0)), (5, (.d (eI64 x7.2)))] [(.var (.d (eDisk d))), (.var (.d (eSuper s))), (.var (.d (eDisk x7.1))), (.var (.d (eDisk x7.1)))] [] hmx (by kernel_rfl) good_nil ?_
        refine aw_ret ?_
        have hg := some_o hg
        subst hg
        exact lv_r [true, true] [] (by kernel_rfl)
      · have hg := ite_f hg h9
        refine cd_f h9 (by kernel_rfl) ?_
        refine aw_skip ?_
        refine aw_seq ?_
        obtain ⟨x10, h11, hg⟩ := bnd_o hg
        refine rg (Z := Zt) 0 0 [(1, .vf (.tup [(.d (eDisk x10.1)), (.d (eI64 x10.2))]))] [.vf 202 [(.d (eDisk x7.1))]] [(4, (.ptr 2 0)), (5, (.d (eI64 x10.2)))] [(.var (.d (eDisk d))), (.var (.d (eSuper s))), (.var (.d (eDisk x10.1))), (.var (.d (eDisk x7.1)))] [] hmx (by kernel_rfl) (good_vf (t_ref04_Flush h11) rfl rfl good_nil) ?_
        refine aw_ret ?_
        have hg := some_o hg
        subst hg
        exact lv_r [true, true] [] (by kernel_rfl)
end Go.Am
