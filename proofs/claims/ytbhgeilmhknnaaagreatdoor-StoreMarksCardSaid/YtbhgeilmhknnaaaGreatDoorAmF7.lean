/- Printed by geng.py: functions of the program as Lean functions, with the proofs that the code comes to them. -/
import Derived.Test.YtbhgeilmhknnaaaGreatDoorAmF6
namespace Go.Am
open Go.Proofs
set_option maxRecDepth 100000
/- ref15.Commit -/
def ref15_Commit (n : Nat) (s : Store) (b : Super) : Option (Store × Int) :=
  (bif (D.beq (eSuper b) (eSuper s.super)) then (some (s, (0 : Int))) else (Bnd (ref07_Commit n s.disk b) fun x2 => (bif (x2.2 == (0 : Int)) then (some ((Store.mk x2.1 b s.mask), x2.2)) else (some ((Store.mk x2.1 s.super s.mask), x2.2)))))
theorem t_ref15_Commit {n : Nat} {s : Store} {b : Super} {r : (Store × Int)} (hg : ref15_Commit n s b = some r) : VF Pg 68 [(.d (eStore s)), (.d (eSuper b))] (single [(.d (eStore r.1)), (.d (eI64 r.2))]) := by
  refine fn_ok (fn := Tryz.f68) (by kernel_rfl) rfl (by kernel_rfl) (Nat.le_of_ble_eq_true (by kernel_rfl)) fun B hB => ?_
  refine aw_seq ?_
  refine rg (Z := Zt) 3 0 [] [] [(2, (.ptr 0 0)), (3, (.ptr 1 0)), (4, (.ptr 2 0))] [(.var (.d (eStore s))), (.var (.d (eSuper b))), (.var (.agg [(.agg [(.full (([] : (List Str)).map eS)), (.full (([] : (List Write)).map eWrite)), (.d (eI64 (0 : Int))), (.d (eB false))]), (.agg [(.d (eI64 (0 : Int))), (.agg [(.d (eU64 (0 : Int))), (.d (eU64 (0 : Int))), (.agg [(.d (eU64 (0 : Int))), (.d (eU64 (0 : Int)))])]), (.d (eB false)), (.d (eB false)), (.d (eB false))]), (.d (eU32 (0 : Int)))]))] [] hmx (by kernel_rfl) good_nil ?_
  refine aw_seq ?_
  refine aw_seq ?_
  refine rg (Z := Zt) 0 0 [] [] [(2, (.ptr 0 0)), (3, (.ptr 1 0)), (4, (.ptr 2 0)), (11, (.d (eB (D.beq (eSuper b) (eSuper s.super)))))] [(.var (.d (eStore s))), (.var (.d (eSuper b))), (.var (.agg [(.agg [(.full (([] : (List Str)).map eS)), (.full (([] : (List Write)).map eWrite)), (.d (eI64 (0 : Int))), (.d (eB false))]), (.agg [(.d (eI64 (0 : Int))), (.agg [(.d (eU64 (0 : Int))), (.d (eU64 (0 : Int))), (.agg [(.d (eU64 (0 : Int))), (.d (eU64 (0 : Int)))])]), (.d (eB false)), (.d (eB false)), (.d (eB false))]), (.d (eU32 (0 : Int)))]))] [] hmx (by kernel_rfl) good_nil ?_
  rcases Bool.eq_false_or_eq_true (D.beq (eSuper b) (eSuper s.super)) with h1 | h1
  · have hg := ite_t hg h1
    refine cd_t h1 (by kernel_rfl) ?_
    refine aw_seq ?_
    refine rg (Z := Zt) 0 0 [] [] [(4, (.ptr 2 0)), (5, (.d (eI64 (0 : Int))))] [(.var (.d (eStore s))), (.var (.d (eSuper b))), (.var (.d (eStore s)))] [] hmx (by kernel_rfl) good_nil ?_
    refine aw_ret ?_
    have hg := some_o hg
    subst hg
    exact lv_r [true, true] [] (by kernel_rfl)
  · have hg := ite_f hg h1
    refine cd_f h1 (by kernel_rfl) ?_
    refine aw_skip ?_
    refine aw_seq ?_
    obtain ⟨x2, h3, hg⟩ := bnd_o hg
    refine rg (Z := Zt) 1 0 [(3, .vf (.tup [(.d (eDisk x2.1)), (.d (eI64 x2.2))]))] [.vf 137 [(.d (eDisk s.disk)), (.d (eSuper b))]] [(2, (.ptr 0 0)), (3, (.ptr 1 0)), (4, (.ptr 2 0)), (6, (.ptr 3 0)), (7, (.d (eI64 x2.2)))] [(.var (.d (eStore s))), (.var (.d (eSuper b))), (.var (.agg [(.agg [(.full (([] : (List Str)).map eS)), (.full (([] : (List Write)).map eWrite)), (.d (eI64 (0 : Int))), (.d (eB false))]), (.agg [(.d (eI64 (0 : Int))), (.agg [(.d (eU64 (0 : Int))), (.d (eU64 (0 : Int))), (.agg [(.d (eU64 (0 : Int))), (.d (eU64 (0 : Int)))])]), (.d (eB false)), (.d (eB false)), (.d (eB false))]), (.d (eU32 (0 : Int)))])), (.var (.d (eDisk x2.1)))] [] hmx (by kernel_rfl) (good_vf (t_ref07_Commit h3) rfl rfl good_nil) ?_
    refine aw_seq ?_
    refine rg (Z := Zt) 0 0 [] [] [(2, (.ptr 0 0)), (3, (.ptr 1 0)), (4, (.ptr 2 0)), (7, (.d (eI64 x2.2)))] [(.var (.d (eStore (Store.mk x2.1 s.super s.mask)))), (.var (.d (eSuper b))), (.var (.agg [(.agg [(.full (([] : (List Str)).map eS)), (.full (([] : (List Write)).map eWrite)), (.d (eI64 (0 : Int))), (.d (eB false))]), (.agg [(.d (eI64 (0 : Int))), (.agg [(.d (eU64 (0 : Int))), (.d (eU64 (0 : Int))), (.agg [(.d (eU64 (0 : Int))), (.d (eU64 (0 : Int)))])]), (.d (eB false)), (.d (eB false)), (.d (eB false))]), (.d (eU32 (0 : Int)))])), (.var (.d (eDisk x2.1)))] [] hmx (by kernel_rfl) good_nil ?_
    refine aw_seq ?_
    refine aw_seq ?_
    refine rg (Z := Zt) 0 0 [] [] [(2, (.ptr 0 0)), (3, (.ptr 1 0)), (4, (.ptr 2 0)), (7, (.d (eI64 x2.2))), (23, (.d (eB (x2.2 == (0 : Int)))))] [(.var (.d (eStore (Store.mk x2.1 s.super s.mask)))), (.var (.d (eSuper b))), (.var (.agg [(.agg [(.full (([] : (List Str)).map eS)), (.full (([] : (List Write)).map eWrite)), (.d (eI64 (0 : Int))), (.d (eB false))]), (.agg [(.d (eI64 (0 : Int))), (.agg [(.d (eU64 (0 : Int))), (.d (eU64 (0 : Int))), (.agg [(.d (eU64 (0 : Int))), (.d (eU64 (0 : Int)))])]), (.d (eB false)), (.d (eB false)), (.d (eB false))]), (.d (eU32 (0 : Int)))])), (.var (.d (eDisk x2.1)))] [] hmx (by kernel_rfl) good_nil ?_
    rcases Bool.eq_false_or_eq_true (x2.2 == (0 : Int)) with h4 | h4
    · have hg := ite_t hg h4
      refine cd_t h4 (by kernel_rfl) ?_
      refine rg (Z := Zt) 0 0 [] [] [(2, (.ptr 0 0)), (4, (.ptr 2 0)), (7, (.d (eI64 x2.2)))] [(.var (.d (eStore (Store.mk x2.1 b s.mask)))), (.var (.d (eSuper b))), (.var (.agg [(.agg [(.full (([] : (List Str)).map eS)), (.full (([] : (List Write)).map eWrite)), (.d (eI64 (0 : Int))), (.d (eB false))]), (.agg [(.d (eI64 (0 : Int))), (.agg [(.d (eU64 (0 : Int))), (.d (eU64 (0 : Int))), (.agg [(.d (eU64 (0 : Int))), (.d (eU64 (0 : Int)))])]), (.d (eB false)), (.d (eB false)), (.d (eB false))]), (.d (eU32 (0 : Int)))])), (.var (.d (eDisk x2.1)))] [] hmx (by kernel_rfl) good_nil ?_
      refine aw_seq ?_
      refine rg (Z := Zt) 0 0 [] [] [(4, (.ptr 2 0)), (5, (.d (eI64 x2.2)))] [(.var (.d (eStore (Store.mk x2.1 b s.mask)))), (.var (.d (eSuper b))), (.var (.d (eStore (Store.mk x2.1 b s.mask)))), (.var (.d (eDisk x2.1)))] [] hmx (by kernel_rfl) good_nil ?_
      refine aw_ret ?_
      have hg := some_o hg
      subst hg
      exact lv_r [true, true] [] (by kernel_rfl)
    · have hg := ite_f hg h4
      refine cd_f h4 (by kernel_rfl) ?_
      refine aw_skip ?_
      refine aw_seq ?_
      refine rg (Z := Zt) 0 0 [] [] [(4, (.ptr 2 0)), (5, (.d (eI64 x2.2)))] [(.var (.d (eStore (Store.mk x2.1 s.super s.mask)))), (.var (.d (eSuper b))), (.var (.d (eStore (Store.mk x2.1 s.super s.mask)))), (.var (.d (eDisk x2.1)))] [] hmx (by kernel_rfl) good_nil ?_
      refine aw_ret ?_
      have hg := some_o hg
      subst hg
      exact lv_r [true, true] [] (by kernel_rfl)

/- ref15.Read -/
def ref15_Read (n : Nat) (s : Store) (i : Int) : Option (Str × Int) :=
  (Bnd (ref09_Read n s.disk i) fun x1 => (some (x1.1, x1.2)))
theorem t_ref15_Read {n : Nat} {s : Store} {i : Int} {r : (Str × Int)} (hg : ref15_Read n s i = some r) : VF Pg 69 [(.d (eStore s)), (.d (eI64 i))] (single [(.d (eS r.1)), (.d (eI64 r.2))]) := by
  refine fn_ok (fn := Tryz.f69) (by kernel_rfl) rfl (by kernel_rfl) (Nat.le_of_ble_eq_true (by kernel_rfl)) fun B hB => ?_
  refine aw_seq ?_
  refine rg (Z := Zt) 1 0 [] [] [(1, (.d (eI64 i))), (2, (.ptr 0 0))] [(.var (.d (eStore s)))] [] hmx (by kernel_rfl) good_nil ?_
  refine aw_seq ?_
  obtain ⟨x1, h2, hg⟩ := bnd_o hg
  refine rg (Z := Zt) 0 0 [(3, .vf (.tup [(.d (eS x1.1)), (.d (eI64 x1.2))]))] [.vf 119 [(.d (eDisk s.disk)), (.d (eI64 i))]] [(4, (.d (eS x1.1))), (5, (.d (eI64 x1.2)))] [(.var (.d (eStore s)))] [] hmx (by kernel_rfl) (good_vf (t_ref09_Read h2) rfl rfl good_nil) ?_
  refine aw_ret ?_
  have hg := some_o hg
  subst hg
  exact lv_r [true, true] [] (by kernel_rfl)

/- law15.plain -/
def law15_plain (n : Nat) (s : Store) (a : Act_law15) : Option (Store × Str × Int) :=
  (bif (a.kind == (0 : Int)) then (Bnd (ref15_Mark n s a.block) fun x2 => (some (x2.1, ([] : Str), x2.2))) else (bif (a.kind == (1 : Int)) then (Bnd (ref15_Wipe n s a.block) fun x5 => (some (x5.1, ([] : Str), x5.2))) else (bif (a.kind == (2 : Int)) then (Bnd (ref15_Join n s a.mask) fun x8 => (some (x8.1, ([] : Str), x8.2))) else (bif (a.kind == (3 : Int)) then (Bnd (ref15_Put n s a.block a.data) fun x11 => (some (x11.1, ([] : Str), x11.2))) else (bif (a.kind == (4 : Int)) then (Bnd (ref15_Commit n s a.super) fun x14 => (some (x14.1, ([] : Str), x14.2))) else (Bnd (ref15_Read n s a.block) fun x16 => (some (s, x16.1, x16.2))))))))
theorem t_law15_plain {n : Nat} {s : Store} {a : Act_law15} {r : (Store × Str × Int)} (hg : law15_plain n s a = some r) : VF Pg 17 [(.d (eStore s)), (.d (eAct_law15 a))] (single [(.d (eStore r.1)), (.d (eS r.2.1)), (.d (eI64 r.2.2))]) := by
  refine fn_ok (fn := Tryz.f17) (by kernel_rfl) rfl (by kernel_rfl) (Nat.le_of_ble_eq_true (by kernel_rfl)) fun B hB => ?_
  refine aw_seq ?_
  refine rg (Z := Zt) 3 0 [] [] [(2, (.ptr 0 0)), (3, (.ptr 1 0)), (4, (.ptr 2 0))] [(.var (.d (eStore s))), (.var (.d (eAct_law15 a))), (.var (.agg [(.agg [(.full (([] : (List Str)).map eS)), (.full (([] : (List Write)).map eWrite)), (.d (eI64 (0 : Int))), (.d (eB false))]), (.agg [(.d (eI64 (0 : Int))), (.agg [(.d (eU64 (0 : Int))), (.d (eU64 (0 : Int))), (.agg [(.d (eU64 (0 : Int))), (.d (eU64 (0 : Int)))])]), (.d (eB false)), (.d (eB false)), (.d (eB false))]), (.d (eU32 (0 : Int)))]))] [] hmx (by kernel_rfl) good_nil ?_
  refine aw_seq ?_
  refine rg (Z := Zt) 0 0 [] [] [(2, (.ptr 0 0)), (3, (.ptr 1 0)), (4, (.ptr 2 0)), (7, (.d (eS ([] : Str))))] [(.var (.d (eStore s))), (.var (.d (eAct_law15 a))), (.var (.agg [(.agg [(.full (([] : (List Str)).map eS)), (.full (([] : (List Write)).map eWrite)), (.d (eI64 (0 : Int))), (.d (eB false))]), (.agg [(.d (eI64 (0 : Int))), (.agg [(.d (eU64 (0 : Int))), (.d (eU64 (0 : Int))), (.agg [(.d (eU64 (0 : Int))), (.d (eU64 (0 : Int)))])]), (.d (eB false)), (.d (eB false)), (.d (eB false))]), (.d (eU32 (0 : Int)))]))] [] hmx (by kernel_rfl) good_nil ?_
  refine aw_seq ?_
  refine rg (Z := Zt) 0 0 [] [] [(2, (.ptr 0 0)), (3, (.ptr 1 0)), (4, (.ptr 2 0)), (7, (.d (eS ([] : Str))))] [(.var (.d (eStore s))), (.var (.d (eAct_law15 a))), (.var (.agg [(.agg [(.full (([] : (List Str)).map eS)), (.full (([] : (List Write)).map eWrite)), (.d (eI64 (0 : Int))), (.d (eB false))]), (.agg [(.d (eI64 (0 : Int))), (.agg [(.d (eU64 (0 : Int))), (.d (eU64 (0 : Int))), (.agg [(.d (eU64 (0 : Int))), (.d (eU64 (0 : Int)))])]), (.d (eB false)), (.d (eB false)), (.d (eB false))]), (.d (eU32 (0 : Int)))]))] [] hmx (by kernel_rfl) good_nil ?_
  refine aw_seq ?_
  refine aw_seq ?_
  refine rg (Z := Zt) 0 0 [] [] [(2, (.ptr 0 0)), (3, (.ptr 1 0)), (4, (.ptr 2 0)), (7, (.d (eS ([] : Str)))), (10, (.d (eI64 a.kind)))] [(.var (.d (eStore s))), (.var (.d (eAct_law15 a))), (.var (.agg [(.agg [(.full (([] : (List Str)).map eS)), (.full (([] : (List Write)).map eWrite)), (.d (eI64 (0 : Int))), (.d (eB false))]), (.agg [(.d (eI64 (0 : Int))), (.agg [(.d (eU64 (0 : Int))), (.d (eU64 (0 : Int))), (.agg [(.d (eU64 (0 : Int))), (.d (eU64 (0 : Int)))])]), (.d (eB false)), (.d (eB false)), (.d (eB false))]), (.d (eU32 (0 : Int)))]))] [] hmx (by kernel_rfl) good_nil ?_
  refine aw_block ?_
  refine aw_seq ?_
  refine rg (Z := Zt) 0 0 [] [] [(2, (.ptr 0 0)), (3, (.ptr 1 0)), (4, (.ptr 2 0)), (7, (.d (eS ([] : Str)))), (10, (.d (eI64 a.kind))), (18, (.d (eB (a.kind == (0 : Int)))))] [(.var (.d (eStore s))), (.var (.d (eAct_law15 a))), (.var (.agg [(.agg [(.full (([] : (List Str)).map eS)), (.full (([] : (List Write)).map eWrite)), (.d (eI64 (0 : Int))), (.d (eB false))]), (.agg [(.d (eI64 (0 : Int))), (.agg [(.d (eU64 (0 : Int))), (.d (eU64 (0 : Int))), (.agg [(.d (eU64 (0 : Int))), (.d (eU64 (0 : Int)))])]), (.d (eB false)), (.d (eB false)), (.d (eB false))]), (.d (eU32 (0 : Int)))]))] [] hmx (by kernel_rfl) good_nil ?_
  rcases Bool.eq_false_or_eq_true (a.kind == (0 : Int)) with h1 | h1
  · have hg := ite_t hg h1
    refine cd_t h1 (by kernel_rfl) ?_
    obtain ⟨x2, h3, hg⟩ := bnd_o hg
    refine rg (Z := Zt) 0 0 [(3, .vf (.tup [(.d (eStore x2.1)), (.d (eI64 x2.2))]))] [.vf 64 [(.d (eStore s)), (.d (eI64 a.block))]] [(2, (.ptr 0 0)), (4, (.ptr 2 0)), (7, (.d (eS ([] : Str)))), (8, (.d (eI64 x2.2)))] [(.var (.d (eStore x2.1))), (.var (.d (eAct_law15 a))), (.var (.agg [(.agg [(.full (([] : (List Str)).map eS)), (.full (([] : (List Write)).map eWrite)), (.d (eI64 (0 : Int))), (.d (eB false))]), (.agg [(.d (eI64 (0 : Int))), (.agg [(.d (eU64 (0 : Int))), (.d (eU64 (0 : Int))), (.agg [(.d (eU64 (0 : Int))), (.d (eU64 (0 : Int)))])]), (.d (eB false)), (.d (eB false)), (.d (eB false))]), (.d (eU32 (0 : Int)))]))] [] hmx (by kernel_rfl) (good_vf (t_ref15_Mark h3) rfl rfl good_nil) ?_
    refine aw_seq ?_
    refine rg (Z := Zt) 0 0 [] [] [(4, (.ptr 2 0)), (5, (.d (eS ([] : Str)))), (6, (.d (eI64 x2.2)))] [(.var (.d (eStore x2.1))), (.var (.d (eAct_law15 a))), (.var (.d (eStore x2.1)))] [] hmx (by kernel_rfl) good_nil ?_
    refine aw_ret ?_
    have hg := some_o hg
    subst hg
    exact lv_r [true, true, true] [] (by kernel_rfl)
  · have hg := ite_f hg h1
    refine cd_f h1 (by kernel_rfl) ?_
    refine aw_seq ?_
    refine rg (Z := Zt) 0 0 [] [] [(2, (.ptr 0 0)), (3, (.ptr 1 0)), (4, (.ptr 2 0)), (7, (.d (eS ([] : Str)))), (10, (.d (eI64 a.kind))), (27, (.d (eB (a.kind == (1 : Int)))))] [(.var (.d (eStore s))), (.var (.d (eAct_law15 a))), (.var (.agg [(.agg [(.full (([] : (List Str)).map eS)), (.full (([] : (List Write)).map eWrite)), (.d (eI64 (0 : Int))), (.d (eB false))]), (.agg [(.d (eI64 (0 : Int))), (.agg [(.d (eU64 (0 : Int))), (.d (eU64 (0 : Int))), (.agg [(.d (eU64 (0 : Int))), (.d (eU64 (0 : Int)))])]), (.d (eB false)), (.d (eB false)), (.d (eB false))]), (.d (eU32 (0 : Int)))]))] [] hmx (by kernel_rfl) good_nil ?_
    rcases Bool.eq_false_or_eq_true (a.kind == (1 : Int)) with h4 | h4
    · have hg := ite_t hg h4
      refine cd_t h4 (by kernel_rfl) ?_
      obtain ⟨x5, h6, hg⟩ := bnd_o hg
      refine rg (Z := Zt) 0 0 [(3, .vf (.tup [(.d (eStore x5.1)), (.d (eI64 x5.2))]))] [.vf 65 [(.d (eStore s)), (.d (eI64 a.block))]] [(2, (.ptr 0 0)), (4, (.ptr 2 0)), (7, (.d (eS ([] : Str)))), (8, (.d (eI64 x5.2)))] [(.var (.d (eStore x5.1))), (.var (.d (eAct_law15 a))), (.var (.agg [(.agg [(.full (([] : (List Str)).map eS)), (.full (([] : (List Write)).map eWrite)), (.d (eI64 (0 : Int))), (.d (eB false))]), (.agg [(.d (eI64 (0 : Int))), (.agg [(.d (eU64 (0 : Int))), (.d (eU64 (0 : Int))), (.agg [(.d (eU64 (0 : Int))), (.d (eU64 (0 : Int)))])]), (.d (eB false)), (.d (eB false)), (.d (eB false))]), (.d (eU32 (0 : Int)))]))] [] hmx (by kernel_rfl) (good_vf (t_ref15_Wipe h6) rfl rfl good_nil) ?_
      refine aw_seq ?_
      refine rg (Z := Zt) 0 0 [] [] [(4, (.ptr 2 0)), (5, (.d (eS ([] : Str)))), (6, (.d (eI64 x5.2)))] [(.var (.d (eStore x5.1))), (.var (.d (eAct_law15 a))), (.var (.d (eStore x5.1)))] [] hmx (by kernel_rfl) good_nil ?_
      refine aw_ret ?_
      have hg := some_o hg
      subst hg
      exact lv_r [true, true, true] [] (by kernel_rfl)
    · have hg := ite_f hg h4
      refine cd_f h4 (by kernel_rfl) ?_
      refine aw_seq ?_
      refine rg (Z := Zt) 0 0 [] [] [(2, (.ptr 0 0)), (3, (.ptr 1 0)), (4, (.ptr 2 0)), (7, (.d (eS ([] : Str)))), (10, (.d (eI64 a.kind))), (36, (.d (eB (a.kind == (2 : Int)))))] [(.var (.d (eStore s))), (.var (.d (eAct_law15 a))), (.var (.agg [(.agg [(.full (([] : (List Str)).map eS)), (.full (([] : (List Write)).map eWrite)), (.d (eI64 (0 : Int))), (.d (eB false))]), (.agg [(.d (eI64 (0 : Int))), (.agg [(.d (eU64 (0 : Int))), (.d (eU64 (0 : Int))), (.agg [(.d (eU64 (0 : Int))), (.d (eU64 (0 : Int)))])]), (.d (eB false)), (.d (eB false)), (.d (eB false))]), (.d (eU32 (0 : Int)))]))] [] hmx (by kernel_rfl) good_nil ?_
      rcases Bool.eq_false_or_eq_true (a.kind == (2 : Int)) with h7 | h7
      · have hg := ite_t hg h7
        refine cd_t h7 (by kernel_rfl) ?_
        obtain ⟨x8, h9, hg⟩ := bnd_o hg
        refine rg (Z := Zt) 0 0 [(3, .vf (.tup [(.d (eStore x8.1)), (.d (eI64 x8.2))]))] [.vf 66 [(.d (eStore s)), (.d (eU32 a.mask))]] [(2, (.ptr 0 0)), (4, (.ptr 2 0)), (7, (.d (eS ([] : Str)))), (8, (.d (eI64 x8.2)))] [(.var (.d (eStore x8.1))), (.var (.d (eAct_law15 a))), (.var (.agg [(.agg [(.full (([] : (List Str)).map eS)), (.full (([] : (List Write)).map eWrite)), (.d (eI64 (0 : Int))), (.d (eB false))]), (.agg [(.d (eI64 (0 : Int))), (.agg [(.d (eU64 (0 : Int))), (.d (eU64 (0 : Int))), (.agg [(.d (eU64 (0 : Int))), (.d (eU64 (0 : Int)))])]), (.d (eB false)), (.d (eB false)), (.d (eB false))]), (.d (eU32 (0 : Int)))]))] [] hmx (by kernel_rfl) (good_vf (t_ref15_Join h9) rfl rfl good_nil) ?_
        refine aw_seq ?_
        refine rg (Z := Zt) 0 0 [] [] [(4, (.ptr 2 0)), (5, (.d (eS ([] : Str)))), (6, (.d (eI64 x8.2)))] [(.var (.d (eStore x8.1))), (.var (.d (eAct_law15 a))), (.var (.d (eStore x8.1)))] [] hmx (by kernel_rfl) good_nil ?_
        refine aw_ret ?_
        have hg := some_o hg
        subst hg
        exact lv_r [true, true, true] [] (by kernel_rfl)
      · have hg := ite_f hg h7
        refine cd_f h7 (by kernel_rfl) ?_
        refine aw_seq ?_
        refine rg (Z := Zt) 0 0 [] [] [(2, (.ptr 0 0)), (3, (.ptr 1 0)), (4, (.ptr 2 0)), (7, (.d (eS ([] : Str)))), (10, (.d (eI64 a.kind))), (45, (.d (eB (a.kind == (3 : Int)))))] [(.var (.d (eStore s))), (.var (.d (eAct_law15 a))), (.var (.agg [(.agg [(.full (([] : (List Str)).map eS)), (.full (([] : (List Write)).map eWrite)), (.d (eI64 (0 : Int))), (.d (eB false))]), (.agg [(.d (eI64 (0 : Int))), (.agg [(.d (eU64 (0 : Int))), (.d (eU64 (0 : Int))), (.agg [(.d (eU64 (0 : Int))), (.d (eU64 (0 : Int)))])]), (.d (eB false)), (.d (eB false)), (.d (eB false))]), (.d (eU32 (0 : Int)))]))] [] hmx (by kernel_rfl) good_nil ?_
        rcases Bool.eq_false_or_eq_true (a.kind == (3 : Int)) with h10 | h10
        · have hg := ite_t hg h10
          refine cd_t h10 (by kernel_rfl) ?_
          obtain ⟨x11, h12, hg⟩ := bnd_o hg
          refine rg (Z := Zt) 0 0 [(5, .vf (.tup [(.d (eStore x11.1)), (.d (eI64 x11.2))]))] [.vf 67 [(.d (eStore s)), (.d (eI64 a.block)), (.d (eS a.data))]] [(2, (.ptr 0 0)), (4, (.ptr 2 0)), (7, (.d (eS ([] : Str)))), (8, (.d (eI64 x11.2)))] [(.var (.d (eStore x11.1))), (.var (.d (eAct_law15 a))), (.var (.agg [(.agg [(.full (([] : (List Str)).map eS)), (.full (([] : (List Write)).map eWrite)), (.d (eI64 (0 : Int))), (.d (eB false))]), (.agg [(.d (eI64 (0 : Int))), (.agg [(.d (eU64 (0 : Int))), (.d (eU64 (0 : Int))), (.agg [(.d (eU64 (0 : Int))), (.d (eU64 (0 : Int)))])]), (.d (eB false)), (.d (eB false)), (.d (eB false))]), (.d (eU32 (0 : Int)))]))] [] hmx (by kernel_rfl) (good_vf (t_ref15_Put h12) rfl rfl good_nil) ?_
          refine aw_seq ?_
          refine rg (Z := Zt) 0 0 [] [] [(4, (.ptr 2 0)), (5, (.d (eS ([] : Str)))), (6, (.d (eI64 x11.2)))] [(.var (.d (eStore x11.1))), (.var (.d (eAct_law15 a))), (.var (.d (eStore x11.1)))] [] hmx (by kernel_rfl) good_nil ?_
          refine aw_ret ?_
          have hg := some_o hg
          subst hg
          exact lv_r [true, true, true] [] (by kernel_rfl)
        · have hg := ite_f hg h10
          refine cd_f h10 (by kernel_rfl) ?_
          refine aw_seq ?_
          refine rg (Z := Zt) 0 0 [] [] [(2, (.ptr 0 0)), (3, (.ptr 1 0)), (4, (.ptr 2 0)), (7, (.d (eS ([] : Str)))), (56, (.d (eB (a.kind == (4 : Int)))))] [(.var (.d (eStore s))), (.var (.d (eAct_law15 a))), (.var (.agg [(.agg [(.full (([] : (List Str)).map eS)), (.full (([] : (List Write)).map eWrite)), (.d (eI64 (0 : Int))), (.d (eB false))]), (.agg [(.d (eI64 (0 : Int))), (.agg [(.d (eU64 (0 : Int))), (.d (eU64 (0 : Int))), (.agg [(.d (eU64 (0 : Int))), (.d (eU64 (0 : Int)))])]), (.d (eB false)), (.d (eB false)), (.d (eB false))]), (.d (eU32 (0 : Int)))]))] [] hmx (by kernel_rfl) good_nil ?_
          rcases Bool.eq_false_or_eq_true (a.kind == (4 : Int)) with h13 | h13
          · have hg := ite_t hg h13
            refine cd_t h13 (by kernel_rfl) ?_
            obtain ⟨x14, h15, hg⟩ := bnd_o hg
            refine rg (Z := Zt) 0 0 [(3, .vf (.tup [(.d (eStore x14.1)), (.d (eI64 x14.2))]))] [.vf 68 [(.d (eStore s)), (.d (eSuper a.super))]] [(2, (.ptr 0 0)), (4, (.ptr 2 0)), (7, (.d (eS ([] : Str)))), (8, (.d (eI64 x14.2)))] [(.var (.d (eStore x14.1))), (.var (.d (eAct_law15 a))), (.var (.agg [(.agg [(.full (([] : (List Str)).map eS)), (.full (([] : (List Write)).map eWrite)), (.d (eI64 (0 : Int))), (.d (eB false))]), (.agg [(.d (eI64 (0 : Int))), (.agg [(.d (eU64 (0 : Int))), (.d (eU64 (0 : Int))), (.agg [(.d (eU64 (0 : Int))), (.d (eU64 (0 : Int)))])]), (.d (eB false)), (.d (eB false)), (.d (eB false))]), (.d (eU32 (0 : Int)))]))] [] hmx (by kernel_rfl) (good_vf (t_ref15_Commit h15) rfl rfl good_nil) ?_
            refine aw_seq ?_
            refine rg (Z := Zt) 0 0 [] [] [(4, (.ptr 2 0)), (5, (.d (eS ([] : Str)))), (6, (.d (eI64 x14.2)))] [(.var (.d (eStore x14.1))), (.var (.d (eAct_law15 a))), (.var (.d (eStore x14.1)))] [] hmx (by kernel_rfl) good_nil ?_
            refine aw_ret ?_
            have hg := some_o hg
            subst hg
            exact lv_r [true, true, true] [] (by kernel_rfl)
          · have hg := ite_f hg h13
            refine cd_f h13 (by kernel_rfl) ?_
            obtain ⟨x16, h17, hg⟩ := bnd_o hg
            refine rg (Z := Zt) 0 0 [(3, .vf (.tup [(.d (eS x16.1)), (.d (eI64 x16.2))]))] [.vf 69 [(.d (eStore s)), (.d (eI64 a.block))]] [(2, (.ptr 0 0)), (4, (.ptr 2 0)), (7, (.d (eS x16.1))), (8, (.d (eI64 x16.2)))] [(.var (.d (eStore s))), (.var (.d (eAct_law15 a))), (.var (.agg [(.agg [(.full (([] : (List Str)).map eS)), (.full (([] : (List Write)).map eWrite)), (.d (eI64 (0 : Int))), (.d (eB false))]), (.agg [(.d (eI64 (0 : Int))), (.agg [(.d (eU64 (0 : Int))), (.d (eU64 (0 : Int))), (.agg [(.d (eU64 (0 : Int))), (.d (eU64 (0 : Int)))])]), (.d (eB false)), (.d (eB false)), (.d (eB false))]), (.d (eU32 (0 : Int)))]))] [] hmx (by kernel_rfl) (good_vf (t_ref15_Read h17) rfl rfl good_nil) ?_
            refine aw_seq ?_
            refine rg (Z := Zt) 0 0 [] [] [(4, (.ptr 2 0)), (5, (.d (eS x16.1))), (6, (.d (eI64 x16.2)))] [(.var (.d (eStore s))), (.var (.d (eAct_law15 a))), (.var (.d (eStore s)))] [] hmx (by kernel_rfl) good_nil ?_
            refine aw_ret ?_
            have hg := some_o hg
            subst hg
            exact lv_r [true, true, true] [] (by kernel_rfl)

/- ref04.Same -/
mutual
def ref04_Same_L1 (n : Nat) (a : Disk) (b : Disk) (v22 : Int) : Option Bool :=
  match n with
  | 0 => none
  | n + 1 => (bif (decide (v22 < (a.sure.length : Int))) then (Chk (inR v22 a.sure.length) (Chk (inR v22 b.sure.length) (bif (!((gt a.sure v22) == (gt b.sure v22))) then (some false) else (ref04_Same_L1 n a b (wI64 (v22 + (1 : Int))))))) else (ref04_Same_L2 n a b v22 (0 : Int)))
def ref04_Same_L2 (n : Nat) (a : Disk) (b : Disk) (v22 : Int) (v48 : Int) : Option Bool :=
  match n with
  | 0 => none
  | n + 1 => (bif (decide (v48 < (a.cache.length : Int))) then (Chk (inR v48 a.cache.length) (Chk (inR v48 b.cache.length) (bif (!(D.beq (eWrite (gt a.cache v48)) (eWrite (gt b.cache v48)))) then (some false) else (ref04_Same_L2 n a b v22 (wI64 (v48 + (1 : Int))))))) else (some true))
end
def ref04_Same (n : Nat) (a : Disk) (b : Disk) : Option Bool :=
  (bif ((a.sure.length : Int) != (b.sure.length : Int)) then (some false) else (bif ((a.cache.length : Int) != (b.cache.length : Int)) then (some false) else (bif (a.fuse != b.fuse) then (some false) else (bif (!(a.dead == b.dead)) then (some false) else (ref04_Same_L1 n a b (0 : Int))))))
theorem t_ref04_Same {n : Nat} {a : Disk} {b : Disk} {r : Bool} (hg : ref04_Same n a b = some r) : VF Pg 70 [(.d (eDisk a)), (.d (eDisk b))] (single [(.d (eB r))]) := by
  refine fn_ok (fn := Tryz.f70) (by kernel_rfl) rfl (by kernel_rfl) (Nat.le_of_ble_eq_true (by kernel_rfl)) fun B hB => ?_
  refine aw_seq ?_
  refine rg (Z := Zt) 2 0 [] [] [(2, (.ptr 0 0)), (3, (.ptr 1 0))] [(.var (.d (eDisk a))), (.var (.d (eDisk b)))] [] hmx (by kernel_rfl) good_nil ?_
  refine aw_seq ?_
  refine aw_seq ?_
  rcases Bool.eq_false_or_eq_true ((a.sure.length : Int) != (b.sure.length : Int)) with h1 | h1
  · have hg := ite_t hg h1
    refine rg (Z := Zt) 0 0 [(2, .op (.val (.d (eI64 (a.sure.length : Int))))), (5, .op (.val (.d (eI64 (b.sure.length : Int))))), (7, .op (.val (.d (eB true))))] [.op (xLen Pg 25 (.d ((eL eS) a.sure))), .op (xLen Pg 25 (.d ((eL eS) b.sure))), .op (some (.val (.d (eB ((a.sure.length : Int) != (b.sure.length : Int))))))] [(2, (.ptr 0 0)), (3, (.ptr 1 0)), (36, (.d (eB true)))] [(.var (.d (eDisk a))), (.var (.d (eDisk b)))] [] hmx (by kernel_rfl) (good_op (len_d (e := 9) (by kernel_rfl)) (good_op (len_d (e := 9) (by kernel_rfl)) (good_op (bo h1) good_nil))) ?_
    refine cd_t rfl (by kernel_rfl) ?_
    refine aw_seq ?_
    refine rg (Z := Zt) 0 0 [] [] [(4, (.d (eB false)))] [(.var (.d (eDisk a))), (.var (.d (eDisk b)))] [] hmx (by kernel_rfl) good_nil ?_
    refine aw_ret ?_
    have hg := some_o hg
    subst hg
    exact lv_r [true] [] (by kernel_rfl)
  · have hg := ite_f hg h1
    rcases Bool.eq_false_or_eq_true ((a.cache.length : Int) != (b.cache.length : Int)) with h2 | h2
    · have hg := ite_t hg h2
      refine rg (Z := Zt) 0 0 [(2, .op (.val (.d (eI64 (a.sure.length : Int))))), (5, .op (.val (.d (eI64 (b.sure.length : Int))))), (7, .op (.val (.d (eB false)))), (10, .op (.val (.d (eI64 (a.cache.length : Int))))), (13, .op (.val (.d (eI64 (b.cache.length : Int))))), (16, .op (.val (.d (eB true))))] [.op (xLen Pg 25 (.d ((eL eS) a.sure))), .op (xLen Pg 25 (.d ((eL eS) b.sure))), .op (some (.val (.d (eB ((a.sure.length : Int) != (b.sure.length : Int)))))), .op (xLen Pg 26 (.d ((eL eWrite) a.cache))), .op (xLen Pg 26 (.d ((eL eWrite) b.cache))), .op (some (.val (.d (eB ((a.cache.length : Int) != (b.cache.length : Int))))))] [(2, (.ptr 0 0)), (3, (.ptr 1 0)), (36, (.d (eB true)))] [(.var (.d (eDisk a))), (.var (.d (eDisk b)))] [] hmx (by kernel_rfl) (good_op (len_d (e := 9) (by kernel_rfl)) (good_op (len_d (e := 9) (by kernel_rfl)) (good_op (bo h1) (good_op (len_d (e := 126) (by kernel_rfl)) (good_op (len_d (e := 126) (by kernel_rfl)) (good_op (bo h2) good_nil)))))) ?_
      refine cd_t rfl (by kernel_rfl) ?_
      refine aw_seq ?_
      refine rg (Z := Zt) 0 0 [] [] [(4, (.d (eB false)))] [(.var (.d (eDisk a))), (.var (.d (eDisk b)))] [] hmx (by kernel_rfl) good_nil ?_
      refine aw_ret ?_
      have hg := some_o hg
      subst hg
      exact lv_r [true] [] (by kernel_rfl)
    · have hg := ite_f hg h2
      rcases Bool.eq_false_or_eq_true (a.fuse != b.fuse) with h3 | h3
      · have hg := ite_t hg h3
        refine rg (Z := Zt) 0 0 [(2, .op (.val (.d (eI64 (a.sure.length : Int))))), (5, .op (.val (.d (eI64 (b.sure.length : Int))))), (7, .op (.val (.d (eB false)))), (10, .op (.val (.d (eI64 (a.cache.length : Int))))), (13, .op (.val (.d (eI64 (b.cache.length : Int))))), (16, .op (.val (.d (eB false)))), (23, .op (.val (.d (eB true))))] [.op (xLen Pg 25 (.d ((eL eS) a.sure))), .op (xLen Pg 25 (.d ((eL eS) b.sure))), .op (some (.val (.d (eB ((a.sure.length : Int) != (b.sure.length : Int)))))), .op (xLen Pg 26 (.d ((eL eWrite) a.cache))), .op (xLen Pg 26 (.d ((eL eWrite) b.cache))), .op (some (.val (.d (eB ((a.cache.length : Int) != (b.cache.length : Int)))))), .op (some (.val (.d (eB (a.fuse != b.fuse)))))] [(2, (.ptr 0 0)), (3, (.ptr 1 0)), (36, (.d (eB true)))] [(.var (.d (eDisk a))), (.var (.d (eDisk b)))] [] hmx (by kernel_rfl) (good_op (len_d (e := 9) (by kernel_rfl)) (good_op (len_d (e := 9) (by kernel_rfl)) (good_op (bo h1) (good_op (len_d (e := 126) (by kernel_rfl)) (good_op (len_d (e := 126) (by kernel_rfl)) (good_op (bo h2) (good_op (bo h3) good_nil))))))) ?_
        refine cd_t rfl (by kernel_rfl) ?_
        refine aw_seq ?_
        refine rg (Z := Zt) 0 0 [] [] [(4, (.d (eB false)))] [(.var (.d (eDisk a))), (.var (.d (eDisk b)))] [] hmx (by kernel_rfl) good_nil ?_
        refine aw_ret ?_
        have hg := some_o hg
        subst hg
        exact lv_r [true] [] (by kernel_rfl)
      · have hg := ite_f hg h3
        refine rg (Z := Zt) 0 0 [(2, .op (.val (.d (eI64 (a.sure.length : Int))))), (5, .op (.val (.d (eI64 (b.sure.length : Int))))), (7, .op (.val (.d (eB false)))), (10, .op (.val (.d (eI64 (a.cache.length : Int))))), (13, .op (.val (.d (eI64 (b.cache.length : Int))))), (16, .op (.val (.d (eB false)))), (23, .op (.val (.d (eB false))))] [.op (xLen Pg 25 (.d ((eL eS) a.sure))), .op (xLen Pg 25 (.d ((eL eS) b.sure))), .op (some (.val (.d (eB ((a.sure.length : Int) != (b.sure.length : Int)))))), .op (xLen Pg 26 (.d ((eL eWrite) a.cache))), .op (xLen Pg 26 (.d ((eL eWrite) b.cache))), .op (some (.val (.d (eB ((a.cache.length : Int) != (b.cache.length : Int)))))), .op (some (.val (.d (eB (a.fuse != b.fuse)))))] [(2, (.ptr 0 0)), (3, (.ptr 1 0)), (36, (.d (eB (!(a.dead == b.dead)))))] [(.var (.d (eDisk a))), (.var (.d (eDisk b)))] [] hmx (by kernel_rfl) (good_op (len_d (e := 9) (by kernel_rfl)) (good_op (len_d (e := 9) (by kernel_rfl)) (good_op (bo h1) (good_op (len_d (e := 126) (by kernel_rfl)) (good_op (len_d (e := 126) (by kernel_rfl)) (good_op (bo h2) (good_op (bo h3) good_nil))))))) ?_
        rcases Bool.eq_false_or_eq_true (!(a.dead == b.dead)) with h4 | h4
        · have hg := ite_t hg h4
          refine cd_t h4 (by kernel_rfl) ?_
          refine aw_seq ?_
          refine rg (Z := Zt) 0 0 [] [] [(4, (.d (eB false)))] [(.var (.d (eDisk a))), (.var (.d (eDisk b)))] [] hmx (by kernel_rfl) good_nil ?_
          refine aw_ret ?_
          have hg := some_o hg
          subst hg
          exact lv_r [true] [] (by kernel_rfl)
        · have hg := ite_f hg h4
          refine cd_f h4 (by kernel_rfl) ?_
          refine aw_skip ?_
          refine aw_seq ?_
          refine aw_seq ?_
          refine rg (Z := Zt) 0 0 [] [] [(2, (.ptr 0 0)), (3, (.ptr 1 0)), (5, (.d (eI64 (0 : Int))))] [(.var (.d (eDisk a))), (.var (.d (eDisk b)))] [] hmx (by kernel_rfl) good_nil ?_
          refine aw_block ?_
          refine aw_loop (fun μ σ => ∃ (v22 : Int), μ ≤ n ∧ ref04_Same_L1 μ a b v22 = some r ∧ Wk B σ (st Tryz.f70.ntmps [(2, (.ptr 0 0)), (3, (.ptr 1 0)), (5, (.d (eI64 v22)))] [(.var (.d (eDisk a))), (.var (.d (eDisk b)))] [])) n ⟨(0 : Int), Nat.le_refl _, hg, (Wk.refl _)⟩ ?_
          rintro μ σ ⟨v22, hle, hg, hwk⟩
          refine aw_wk hwk ?_
          clear hwk
          cases μ with
          | zero => exact absurd (show none = some r from hg) (by simp)
          | succ n =>
            refine aw_seq ?_
            refine aw_seq ?_
            refine rg (Z := Zt) 0 0 [(3, .op (.val (.d (eI64 (a.sure.length : Int)))))] [.op (xLen Pg 25 (.d ((eL eS) a.sure)))] [(2, (.ptr 0 0)), (3, (.ptr 1 0)), (5, (.d (eI64 v22))), (41, (.d (eB (decide (v22 < (a.sure.length : Int))))))] [(.var (.d (eDisk a))), (.var (.d (eDisk b)))] [] hmx (by kernel_rfl) (good_op (len_d (e := 9) (by kernel_rfl)) good_nil) ?_
            rcases Bool.eq_false_or_eq_true (decide (v22 < (a.sure.length : Int))) with h40 | h40
            · have hg := ite_t hg h40
              refine cd_t h40 (by kernel_rfl) ?_
              refine aw_skip ?_
              refine aw_seq ?_
              refine aw_block ?_
              refine aw_seq ?_
              obtain ⟨h41, hg⟩ := chk_o hg
              obtain ⟨h42, hg⟩ := chk_o hg
              refine rg (Z := Zt) 0 0 [(3, .op (.val (.kp (eS (gt a.sure v22))))), (8, .op (.val (.kp (eS (gt b.sure v22)))))] [.op (xIdA Pg 25 (.d ((eL eS) a.sure)) (.d (eI64 v22))), .op (xIdA Pg 25 (.d ((eL eS) b.sure)) (.d (eI64 v22)))] [(2, (.ptr 0 0)), (3, (.ptr 1 0)), (5, (.d (eI64 v22))), (54, (.d (eB (!((gt a.sure v22) == (gt b.sure v22))))))] [(.var (.d (eDisk a))), (.var (.d (eDisk b)))] [] hmx (by kernel_rfl) (good_op (idx_d (s := 1) (b := false) (by_ := 16) (by kernel_rfl) (fun _ => rfl) h41) (good_op (idx_d (s := 1) (b := false) (by_ := 16) (by kernel_rfl) (fun _ => rfl) h42) good_nil)) ?_
              rcases Bool.eq_false_or_eq_true (!((gt a.sure v22) == (gt b.sure v22))) with h43 | h43
              · have hg := ite_t hg h43
                refine cd_t h43 (by kernel_rfl) ?_
                refine aw_seq ?_
                refine rg (Z := Zt) 0 0 [] [] [(4, (.d (eB false)))] [(.var (.d (eDisk a))), (.var (.d (eDisk b)))] [] hmx (by kernel_rfl) good_nil ?_
                refine aw_ret ?_
                have hg := some_o hg
                subst hg
                exact lv_r [true] [] (by kernel_rfl)
              · have hg := ite_f hg h43
                refine cd_f h43 (by kernel_rfl) ?_
                refine aw_skip ?_
                refine rg (Z := Zt) 0 0 [] [] [(2, (.ptr 0 0)), (3, (.ptr 1 0)), (5, (.d (eI64 (wI64 (v22 + (1 : Int))))))] [(.var (.d (eDisk a))), (.var (.d (eDisk b)))] [] hmx (by kernel_rfl) good_nil ?_
                exact ⟨n, by omega, (wI64 (v22 + (1 : Int))), by omega, hg, (Wk.refl _)⟩
            · have hg := ite_f hg h40
              refine cd_f h40 (by kernel_rfl) ?_
              refine aw_exit ?_
              refine aw_seq ?_
              refine aw_seq ?_
              refine rg (Z := Zt) 0 0 [] [] [(2, (.ptr 0 0)), (3, (.ptr 1 0)), (6, (.d (eI64 (0 : Int))))] [(.var (.d (eDisk a))), (.var (.d (eDisk b)))] [] hmx (by kernel_rfl) good_nil ?_
              refine aw_block ?_
              refine aw_loop (fun μ σ => ∃ (v48 : Int), μ ≤ n ∧ ref04_Same_L2 μ a b v22 v48 = some r ∧ Wk B σ (st Tryz.f70.ntmps [(2, (.ptr 0 0)), (3, (.ptr 1 0)), (6, (.d (eI64 v48)))] [(.var (.d (eDisk a))), (.var (.d (eDisk b)))] [])) n ⟨(0 : Int), Nat.le_refl _, hg, (Wk.refl _)⟩ ?_
              rintro μ σ ⟨v48, hle, hg, hwk⟩
              refine aw_wk hwk ?_
              clear hwk
              cases μ with
              | zero => exact absurd (show none = some r from hg) (by simp)
              | succ n =>
                refine aw_seq ?_
                refine aw_seq ?_
                refine rg (Z := Zt) 0 0 [(3, .op (.val (.d (eI64 (a.cache.length : Int)))))] [.op (xLen Pg 26 (.d ((eL eWrite) a.cache)))] [(2, (.ptr 0 0)), (3, (.ptr 1 0)), (6, (.d (eI64 v48))), (59, (.d (eB (decide (v48 < (a.cache.length : Int))))))] [(.var (.d (eDisk a))), (.var (.d (eDisk b)))] [] hmx (by kernel_rfl) (good_op (len_d (e := 126) (by kernel_rfl)) good_nil) ?_
                rcases Bool.eq_false_or_eq_true (decide (v48 < (a.cache.length : Int))) with h53 | h53
                · have hg := ite_t hg h53
                  refine cd_t h53 (by kernel_rfl) ?_
                  refine aw_skip ?_
                  refine aw_seq ?_
                  refine aw_block ?_
                  refine aw_seq ?_
                  obtain ⟨h54, hg⟩ := chk_o hg
                  obtain ⟨h55, hg⟩ := chk_o hg
                  refine rg (Z := Zt) 0 0 [(3, .op (.val (.kp (eWrite (gt a.cache v48))))), (8, .op (.val (.kp (eWrite (gt b.cache v48)))))] [.op (xIdA Pg 26 (.d ((eL eWrite) a.cache)) (.d (eI64 v48))), .op (xIdA Pg 26 (.d ((eL eWrite) b.cache)) (.d (eI64 v48)))] [(2, (.ptr 0 0)), (3, (.ptr 1 0)), (6, (.d (eI64 v48))), (72, (.d (eB (!(D.beq (eWrite (gt a.cache v48)) (eWrite (gt b.cache v48)))))))] [(.var (.d (eDisk a))), (.var (.d (eDisk b)))] [] hmx (by kernel_rfl) (good_op (idx_d (s := 2) (b := true) (by_ := 24) (by kernel_rfl) (fun _ => rfl) h54) (good_op (idx_d (s := 2) (b := true) (by_ := 24) (by kernel_rfl) (fun _ => rfl) h55) good_nil)) ?_
                  rcases Bool.eq_false_or_eq_true (!(D.beq (eWrite (gt a.cache v48)) (eWrite (gt b.cache v48)))) with h56 | h56
                  · have hg := ite_t hg h56
                    refine cd_t h56 (by kernel_rfl) ?_
                    refine aw_seq ?_
                    refine rg (Z := Zt) 0 0 [] [] [(4, (.d (eB false)))] [(.var (.d (eDisk a))), (.var (.d (eDisk b)))] [] hmx (by kernel_rfl) good_nil ?_
                    refine aw_ret ?_
                    have hg := some_o hg
                    subst hg
                    exact lv_r [true] [] (by kernel_rfl)
                  · have hg := ite_f hg h56
                    refine cd_f h56 (by kernel_rfl) ?_
                    refine aw_skip ?_
                    refine rg (Z := Zt) 0 0 [] [] [(2, (.ptr 0 0)), (3, (.ptr 1 0)), (6, (.d (eI64 (wI64 (v48 + (1 : Int))))))] [(.var (.d (eDisk a))), (.var (.d (eDisk b)))] [] hmx (by kernel_rfl) good_nil ?_
                    exact ⟨n, by omega, (wI64 (v48 + (1 : Int))), by omega, hg, (Wk.refl _)⟩
                · have hg := ite_f hg h53
                  refine cd_f h53 (by kernel_rfl) ?_
                  refine aw_exit ?_
                  refine aw_seq ?_
                  refine rg (Z := Zt) 0 0 [] [] [(4, (.d (eB true)))] [(.var (.d (eDisk a))), (.var (.d (eDisk b)))] [] hmx (by kernel_rfl) good_nil ?_
                  refine aw_ret ?_
                  have hg := some_o hg
                  subst hg
                  exact lv_r [true] [] (by kernel_rfl)

/- ref15.Same -/
def ref15_Same (n : Nat) (a : Store) (b : Store) : Option Bool :=
  (Bnd (ref04_Same n a.disk b.disk) fun x1 => (bif x1 then (bif (D.beq (eSuper a.super) (eSuper b.super)) then (some (a.mask == b.mask)) else (some false)) else (some false)))
theorem t_ref15_Same {n : Nat} {a : Store} {b : Store} {r : Bool} (hg : ref15_Same n a b = some r) : VF Pg 18 [(.d (eStore a)), (.d (eStore b))] (single [(.d (eB r))]) := by
  refine fn_ok (fn := Tryz.f18) (by kernel_rfl) rfl (by kernel_rfl) (Nat.le_of_ble_eq_true (by kernel_rfl)) fun B hB => ?_
  refine aw_seq ?_
  refine rg (Z := Zt) 2 0 [] [] [(2, (.ptr 0 0)), (3, (.ptr 1 0))] [(.var (.d (eStore a))), (.var (.d (eStore b)))] [] hmx (by kernel_rfl) good_nil ?_
  refine aw_seq ?_
  obtain ⟨x1, h2, hg⟩ := bnd_o hg
  rcases Bool.eq_false_or_eq_true x1 with h3 | h3
  · have hg := ite_t hg h3
    rcases Bool.eq_false_or_eq_true (D.beq (eSuper a.super) (eSuper b.super)) with h4 | h4
    · have hg := ite_t hg h4
      refine rg (Z := Zt) 0 0 [(4, .vf (.d (eB x1))), (5, .op (.val (.d (eB true)))), (12, .op (.val (.d (eB true))))] [.vf 70 [(.d (eDisk a.disk)), (.d (eDisk b.disk))], .op (some (.val (.d (eB x1)))), .op (some (.val (.d (eB (D.beq (eSuper a.super) (eSuper b.super))))))] [(4, (.d (eB (a.mask == b.mask))))] [(.var (.d (eStore a))), (.var (.d (eStore b)))] [] hmx (by kernel_rfl) (good_vf (t_ref04_Same h2) rfl rfl (good_op (bo h3) (good_op (bo h4) good_nil))) ?_
      refine aw_ret ?_
      have hg := some_o hg
      subst hg
      exact lv_r [true] [] (by kernel_rfl)
    · have hg := ite_f hg h4
      refine rg (Z := Zt) 0 0 [(4, .vf (.d (eB x1))), (5, .op (.val (.d (eB true)))), (12, .op (.val (.d (eB false))))] [.vf 70 [(.d (eDisk a.disk)), (.d (eDisk b.disk))], .op (some (.val (.d (eB x1)))), .op (some (.val (.d (eB (D.beq (eSuper a.super) (eSuper b.super))))))] [(4, (.d (eB false)))] [(.var (.d (eStore a))), (.var (.d (eStore b)))] [] hmx (by kernel_rfl) (good_vf (t_ref04_Same h2) rfl rfl (good_op (bo h3) (good_op (bo h4) good_nil))) ?_
      refine aw_ret ?_
      have hg := some_o hg
      subst hg
      exact lv_r [true] [] (by kernel_rfl)
  · have hg := ite_f hg h3
    refine rg (Z := Zt) 0 0 [(4, .vf (.d (eB x1))), (5, .op (.val (.d (eB false))))] [.vf 70 [(.d (eDisk a.disk)), (.d (eDisk b.disk))], .op (some (.val (.d (eB x1))))] [(4, (.d (eB false)))] [(.var (.d (eStore a))), (.var (.d (eStore b)))] [] hmx (by kernel_rfl) (good_vf (t_ref04_Same h2) rfl rfl (good_op (bo h3) good_nil)) ?_
    refine aw_ret ?_
    have hg := some_o hg
    subst hg
    exact lv_r [true] [] (by kernel_rfl)

/- law15.StoreActs -/
def law15_StoreActs_L1 (n : Nat) (n_ : Int) (l : (List Act_law15)) (fuse : Int) (x1 : Bool) (x4 : Bool) (x7 : Store) (x9 : Disk) (v23 : Int) (v24 : Store) : Option Bool :=
  match n with
  | 0 => none
  | n + 1 => (bif (decide (v23 < (l.length : Int))) then (Chk (inR v23 l.length) (Bnd (law15_do n v24 (gt l v23)) fun x39 => (Bnd (law15_plain n v24 (gt l v23)) fun x41 => (Bnd (ref15_Same n x39.1 x41.1) fun x43 => (bif (!x43) then (some false) else (bif (!(x39.2.1 == x41.2.1)) then (some false) else (bif (x39.2.2 != x41.2.2) then (some false) else (bif x39.1.disk.dead then (some (x39.2.2 == (6 : Int))) else (law15_StoreActs_L1 n n_ l fuse x1 x4 x7 x9 (wI64 (v23 + (1 : Int))) x39.1))))))))) else (some true))
def law15_StoreActs (n : Nat) (n_ : Int) (l : (List Act_law15)) (fuse : Int) : Option Bool :=
  (Bnd (law15_alive n) fun x1 => (bif (!x1) then (some false) else (Bnd (law15_great n l) fun x4 => (bif x4 then (some true) else (Bnd (ref15_New n (wI64 ((1 : Int) + (wI64 (n_.tmod (32 : Int)))))) fun x7 => (Let (ref04_Arm x7.disk (wI64 fuse)) fun x9 => (law15_StoreActs_L1 n n_ l fuse x1 x4 x7 x9 (0 : Int) (Store.mk x9 x7.super x7.mask))))))))
theorem t_law15_StoreActs {n : Nat} {n_ : Int} {l : (List Act_law15)} {fuse : Int} {r : Bool} (hg : law15_StoreActs n n_ l fuse = some r) : VF Pg 3 [(.d (eU8 n_)), (.d ((eL eAct_law15) l)), (.d (eU8 fuse))] (single [(.d (eB r))]) := by
  refine fn_ok (fn := Tryz.f3) (by kernel_rfl) rfl (by kernel_rfl) (Nat.le_of_ble_eq_true (by kernel_rfl)) fun B hB => ?_
  refine aw_seq ?_
  refine rg (Z := Zt) 0 0 [] [] [(0, (.d (eU8 n_))), (1, (.d ((eL eAct_law15) l))), (2, (.d (eU8 fuse)))] [] [] hmx (by kernel_rfl) good_nil ?_
  refine aw_seq ?_
  refine aw_seq ?_
  obtain ⟨x1, h2, hg⟩ := bnd_o hg
  refine rg (Z := Zt) 0 0 [(0, .vf (.d (eB x1)))] [.vf 12 []] [(0, (.d (eU8 n_))), (1, (.d ((eL eAct_law15) l))), (2, (.d (eU8 fuse))), (16, (.d (eB (!x1))))] [] [] hmx (by kernel_rfl) (good_vf (t_law15_alive h2) rfl rfl good_nil) ?_
  rcases Bool.eq_false_or_eq_true (!x1) with h3 | h3
  · have hg := ite_t hg h3
    refine cd_t h3 (by kernel_rfl) ?_
    refine aw_seq ?_
    refine rg (Z := Zt) 0 0 [] [] [(6, (.d (eB false)))] [] [] hmx (by kernel_rfl) good_nil ?_
    refine aw_ret ?_
    have hg := some_o hg
    subst hg
    exact lv_r [true] [] (by kernel_rfl)
  · have hg := ite_f hg h3
    refine cd_f h3 (by kernel_rfl) ?_
    refine aw_skip ?_
    refine aw_seq ?_
    refine aw_seq ?_
    obtain ⟨x4, h5, hg⟩ := bnd_o hg
    refine rg (Z := Zt) 0 0 [(1, .vf (.d (eB x4)))] [.vf 13 [(.d ((eL eAct_law15) l))]] [(0, (.d (eU8 n_))), (1, (.d ((eL eAct_law15) l))), (2, (.d (eU8 fuse))), (18, (.d (eB x4)))] [] [] hmx (by kernel_rfl) (good_vf (t_law15_great h5) rfl rfl good_nil) ?_
    rcases Bool.eq_false_or_eq_true x4 with h6 | h6
    · have hg := ite_t hg h6
      refine cd_t h6 (by kernel_rfl) ?_
      refine aw_seq ?_
      refine rg (Z := Zt) 0 0 [] [] [(6, (.d (eB true)))] [] [] hmx (by kernel_rfl) good_nil ?_
      refine aw_ret ?_
      have hg := some_o hg
      subst hg
      exact lv_r [true] [] (by kernel_rfl)
    · have hg := ite_f hg h6
      refine cd_f h6 (by kernel_rfl) ?_
      refine aw_skip ?_
      refine aw_seq ?_
      obtain ⟨x7, h8, hg⟩ := bnd_o hg
      refine rg (Z := Zt) 1 0 [(4, .vf (.d (eStore x7)))] [.vf 14 [(.d (eI64 (wI64 ((1 : Int) + (wI64 (n_.tmod (32 : Int)))))))]] [(1, (.d ((eL eAct_law15) l))), (2, (.d (eU8 fuse))), (7, (.ptr 0 0))] [(.var (.d (eStore x7)))] [] hmx (by kernel_rfl) (good_vf (t_ref15_New h8) rfl rfl good_nil) ?_
      refine aw_seq ?_
      obtain ⟨x9, h10, hg⟩ := let_o hg
      refine rg (Z := Zt) 0 0 [(4, .vf (.d (eDisk x9)))] [.vf 15 [(.d (eDisk x7.disk)), (.d (eI64 (wI64 fuse)))]] [(1, (.d ((eL eAct_law15) l))), (7, (.ptr 0 0))] [(.var (.d (eStore (Store.mk x9 x7.super x7.mask))))] [] hmx (by kernel_rfl) (good_vf (t_ref04_Arm h10) rfl rfl good_nil) ?_
      refine aw_seq ?_
      refine aw_seq ?_
      refine rg (Z := Zt) 0 0 [] [] [(1, (.d ((eL eAct_law15) l))), (7, (.ptr 0 0)), (8, (.d (eI64 (0 : Int))))] [(.var (.d (eStore (Store.mk x9 x7.super x7.mask))))] [] hmx (by kernel_rfl) good_nil ?_
      refine aw_block ?_
      refine aw_loop (fun μ σ => ∃ (v23 : Int) (v24 : Store), μ ≤ n ∧ law15_StoreActs_L1 μ n_ l fuse x1 x4 x7 x9 v23 v24 = some r ∧ Wk B σ (st Tryz.f3.ntmps [(1, (.d ((eL eAct_law15) l))), (7, (.ptr 0 0)), (8, (.d (eI64 v23)))] [(.var (.d (eStore v24)))] [])) n ⟨(0 : Int), (Store.mk x9 x7.super x7.mask), Nat.le_refl _, hg, (Wk.refl _)⟩ ?_
      rintro μ σ ⟨v23, v24, hle, hg, hwk⟩
      refine aw_wk hwk ?_
      clear hwk
      cases μ with
      | zero => exact absurd (show none = some r from hg) (by simp)
      | succ n =>
        refine aw_seq ?_
        refine aw_seq ?_
        refine rg (Z := Zt) 0 0 [(2, .op (.val (.d (eI64 (l.length : Int)))))] [.op (xLen Pg 22 (.d ((eL eAct_law15) l)))] [(1, (.d ((eL eAct_law15) l))), (7, (.ptr 0 0)), (8, (.d (eI64 v23))), (33, (.d (eB (decide (v23 < (l.length : Int))))))] [(.var (.d (eStore v24)))] [] hmx (by kernel_rfl) (good_op (len_d (e := 44) (by kernel_rfl)) good_nil) ?_
        rcases Bool.eq_false_or_eq_true (decide (v23 < (l.length : Int))) with h37 | h37
        · have hg := ite_t hg h37
          refine cd_t h37 (by kernel_rfl) ?_
          refine aw_skip ?_
          refine aw_seq ?_
          refine aw_block ?_
          refine aw_seq ?_
          obtain ⟨h38, hg⟩ := chk_o hg
          obtain ⟨x39, h40, hg⟩ := bnd_o hg
          refine rg (Z := Zt) 1 0 [(3, .op (.val (.kp (eAct_law15 (gt l v23))))), (5, .vf (.tup [(.d (eStore x39.1)), (.d (eS x39.2.1)), (.d (eI64 x39.2.2))]))] [.op (xIdA Pg 22 (.d ((eL eAct_law15) l)) (.d (eI64 v23))), .vf 16 [(.d (eStore v24)), (.d (eAct_law15 (gt l v23)))]] [(1, (.d ((eL eAct_law15) l))), (7, (.ptr 0 0)), (8, (.d (eI64 v23))), (9, (.ptr 1 0)), (10, (.d (eS x39.2.1))), (11, (.d (eI64 x39.2.2)))] [(.var (.d (eStore v24))), (.var (.d (eStore x39.1)))] [] hmx (by kernel_rfl) (good_op (idx_d (s := 12) (b := true) (by_ := 88) (by kernel_rfl) (fun _ => rfl) h38) (good_vf (t_law15_do h40) rfl rfl good_nil)) ?_
          refine aw_seq ?_
          obtain ⟨x41, h42, hg⟩ := bnd_o hg
          refine rg (Z := Zt) 1 0 [(3, .op (.val (.kp (eAct_law15 (gt l v23))))), (5, .vf (.tup [(.d (eStore x41.1)), (.d (eS x41.2.1)), (.d (eI64 x41.2.2))]))] [.op (xIdA Pg 22 (.d ((eL eAct_law15) l)) (.d (eI64 v23))), .vf 17 [(.d (eStore v24)), (.d (eAct_law15 (gt l v23)))]] [(1, (.d ((eL eAct_law15) l))), (7, (.ptr 0 0)), (8, (.d (eI64 v23))), (9, (.ptr 1 0)), (10, (.d (eS x39.2.1))), (11, (.d (eI64 x39.2.2))), (12, (.ptr 2 0)), (13, (.d (eS x41.2.1))), (14, (.d (eI64 x41.2.2)))] [(.var (.d (eStore v24))), (.var (.d (eStore x39.1))), (.var (.d (eStore x41.1)))] [] hmx (by kernel_rfl) (good_op (idx_d (s := 12) (b := true) (by_ := 88) (by kernel_rfl) (fun _ => rfl) h38) (good_vf (t_law15_plain h42) rfl rfl good_nil)) ?_
          refine aw_seq ?_
          refine aw_seq ?_
          obtain ⟨x43, h44, hg⟩ := bnd_o hg
          rcases Bool.eq_false_or_eq_true (!x43) with h45 | h45
          · have hg := ite_t hg h45
            refine rg (Z := Zt) 0 0 [(2, .vf (.d (eB x43))), (4, .op (.val (.d (eB true))))] [.vf 18 [(.d (eStore x39.1)), (.d (eStore x41.1))], .op (some (.val (.d (eB (!x43)))))] [(1, (.d ((eL eAct_law15) l))), (7, (.ptr 0 0)), (8, (.d (eI64 v23))), (9, (.ptr 1 0)), (11, (.d (eI64 x39.2.2))), (69, (.d (eB true)))] [(.var (.d (eStore v24))), (.var (.d (eStore x39.1))), (.var (.d (eStore x41.1)))] [] hmx (by kernel_rfl) (good_vf (t_ref15_Same h44) rfl rfl (good_op (bo h45) good_nil)) ?_
            refine cd_t rfl (by kernel_rfl) ?_
            refine aw_seq ?_
            refine rg (Z := Zt) 0 0 [] [] [(6, (.d (eB false)))] [(.var (.d (eStore v24))), (.var (.d (eStore x39.1))), (.var (.d (eStore x41.1)))] [] hmx (by kernel_rfl) good_nil ?_
            refine aw_ret ?_
            have hg := some_o hg
            subst hg
            exact lv_r [true] [] (by kernel_rfl)
          · have hg := ite_f hg h45
            rcases Bool.eq_false_or_eq_true (!(x39.2.1 == x41.2.1)) with h46 | h46
            · have hg := ite_t hg h46
              refine rg (Z := Zt) 0 0 [(2, .vf (.d (eB x43))), (4, .op (.val (.d (eB false)))), (9, .op (.val (.d (eB true))))] [.vf 18 [(.d (eStore x39.1)), (.d (eStore x41.1))], .op (some (.val (.d (eB (!x43))))), .op (some (.val (.d (eB (!(x39.2.1 == x41.2.1))))))] [(1, (.d ((eL eAct_law15) l))), (7, (.ptr 0 0)), (8, (.d (eI64 v23))), (9, (.ptr 1 0)), (11, (.d (eI64 x39.2.2))), (69, (.d (eB true)))] [(.var (.d (eStore v24))), (.var (.d (eStore x39.1))), (.var (.d (eStore x41.1)))] [] hmx (by kernel_rfl) (good_vf (t_ref15_Same h44) rfl rfl (good_op (bo h45) (good_op (bo h46) good_nil))) ?_
              refine cd_t rfl (by kernel_rfl) ?_
              refine aw_seq ?_
              refine rg (Z := Zt) 0 0 [] [] [(6, (.d (eB false)))] [(.var (.d (eStore v24))), (.var (.d (eStore x39.1))), (.var (.d (eStore x41.1)))] [] hmx (by kernel_rfl) good_nil ?_
              refine aw_ret ?_
              have hg := some_o hg
              subst hg
              exact lv_r [true] [] (by kernel_rfl)
            · have hg := ite_f hg h46
              refine rg (Z := Zt) 0 0 [(2, .vf (.d (eB x43))), (4, .op (.val (.d (eB false)))), (9, .op (.val (.d (eB false))))] [.vf 18 [(.d (eStore x39.1)), (.d (eStore x41.1))], .op (some (.val (.d (eB (!x43))))), .op (some (.val (.d (eB (!(x39.2.1 == x41.2.1))))))] [(1, (.d ((eL eAct_law15) l))), (7, (.ptr 0 0)), (8, (.d (eI64 v23))), (9, (.ptr 1 0)), (11, (.d (eI64 x39.2.2))), (69, (.d (eB (x39.2.2 != x41.2.2))))] [(.var (.d (eStore v24))), (.var (.d (eStore x39.1))), (.var (.d (eStore x41.1)))] [] hmx (by kernel_rfl) (good_vf (t_ref15_Same h44) rfl rfl (good_op (bo h45) (good_op (bo h46) good_nil))) ?_
              rcases Bool.eq_false_or_eq_true (x39.2.2 != x41.2.2) with h47 | h47
              · have hg := ite_t hg h47
                refine cd_t h47 (by kernel_rfl) ?_
                refine aw_seq ?_
                refine rg (Z := Zt) 0 0 [] [] [(6, (.d (eB false)))] [(.var (.d (eStore v24))), (.var (.d (eStore x39.1))), (.var (.d (eStore x41.1)))] [] hmx (by kernel_rfl) good_nil ?_
                refine aw_ret ?_
                have hg := some_o hg
                subst hg
                exact lv_r [true] [] (by kernel_rfl)
              · have hg := ite_f hg h47
                refine cd_f h47 (by kernel_rfl) ?_
                refine aw_skip ?_
                refine aw_seq ?_
                refine aw_seq ?_
                refine rg (Z := Zt) 0 0 [] [] [(1, (.d ((eL eAct_law15) l))), (7, (.ptr 0 0)), (8, (.d (eI64 v23))), (9, (.ptr 1 0)), (11, (.d (eI64 x39.2.2))), (72, (.d (eB x39.1.disk.dead)))] [(.var (.d (eStore v24))), (.var (.d (eStore x39.1))), (.var (.d (eStore x41.1)))] [] hmx (by kernel_rfl) good_nil ?_
                rcases Bool.eq_false_or_eq_true x39.1.disk.dead with h48 | h48
                · have hg := ite_t hg h48
                  refine cd_t h48 (by kernel_rfl) ?_
                  refine aw_seq ?_
                  refine rg (Z := Zt) 0 0 [] [] [(6, (.d (eB (x39.2.2 == (6 : Int)))))] [(.var (.d (eStore v24))), (.var (.d (eStore x39.1))), (.var (.d (eStore x41.1)))] [] hmx (by kernel_rfl) good_nil ?_
                  refine aw_ret ?_
                  have hg := some_o hg
                  subst hg
                  exact lv_r [true] [] (by kernel_rfl)
                · have hg := ite_f hg h48
                  refine cd_f h48 (by kernel_rfl) ?_
                  refine aw_skip ?_
                  refine rg (Z := Zt) 0 0 [] [] [(1, (.d ((eL eAct_law15) l))), (7, (.ptr 0 0)), (8, (.d (eI64 v23)))] [(.var (.d (eStore x39.1))), (.var (.d (eStore x39.1))), (.var (.d (eStore x41.1)))] [] hmx (by kernel_rfl) good_nil ?_
                  refine rg (Z := Zt) 0 0 [] [] [(1, (.d ((eL eAct_law15) l))), (7, (.ptr 0 0)), (8, (.d (eI64 (wI64 (v23 + (1 : Int))))))] [(.var (.d (eStore x39.1))), (.var (.d (eStore x39.1))), (.var (.d (eStore x41.1)))] [] hmx (by kernel_rfl) good_nil ?_
                  exact ⟨n, by omega, (wI64 (v23 + (1 : Int))), x39.1, by omega, hg, (wk_cut (l := [(1, (.d ((eL eAct_law15) l))), (7, (.ptr 0 0)), (8, (.d (eI64 (wI64 (v23 + (1 : Int))))))]) (h := [(.var (.d (eStore x39.1)))]) (k := []) hB 1 0 (by kernel_rfl) (by kernel_rfl))⟩
        · have hg := ite_f hg h37
          refine cd_f h37 (by kernel_rfl) ?_
          refine aw_exit ?_
          refine aw_seq ?_
          refine rg (Z := Zt) 0 0 [] [] [(6, (.d (eB true)))] [(.var (.d (eStore v24)))] [] hmx (by kernel_rfl) good_nil ?_
          refine aw_ret ?_
          have hg := some_o hg
          subst hg
          exact lv_r [true] [] (by kernel_rfl)

/- law15.StoreMarks -/
mutual
def law15_StoreMarks_L1 (n : Nat) (n_ : Int) (l : (List Int)) (wiped : (List Int)) (x1 : Bool) (x6 : Store) (v56 : Int) (v57 : Store) : Option Bool :=
  match n with
  | 0 => none
  | n + 1 => (bif (decide (v56 < (l.length : Int))) then (Chk (inR v56 l.length) (Bnd (store_Mark n v57 (gt l v56)) fun x108 => (bif (decide ((gt l v56) ≥ (0 : Int))) then (bif (!((x108.2 == (0 : Int)) == (decide ((gt l v56) < v57.super.blocks)))) then (some false) else (law15_StoreMarks_L1 n n_ l wiped x1 x6 (wI64 (v56 + (1 : Int))) x108.1)) else (bif (!((x108.2 == (0 : Int)) == false)) then (some false) else (law15_StoreMarks_L1 n n_ l wiped x1 x6 (wI64 (v56 + (1 : Int))) x108.1))))) else (law15_StoreMarks_L2 n n_ l wiped x1 x6 v56 v57 (0 : Int) v57))
def law15_StoreMarks_L2 (n : Nat) (n_ : Int) (l : (List Int)) (wiped : (List Int)) (x1 : Bool) (x6 : Store) (v56 : Int) (v57 : Store) (v126 : Int) (v127 : Store) : Option Bool :=
  match n with
  | 0 => none
  | n + 1 => (bif (decide (v126 < (wiped.length : Int))) then (Chk (inR v126 wiped.length) (Bnd (store_Wipe n v127 (gt wiped v126)) fun x143 => (law15_StoreMarks_L2 n n_ l wiped x1 x6 v56 v57 (wI64 (v126 + (1 : Int))) x143.1))) else (Let (ref04_Crash v127.disk) fun x145 => (Bnd (ref04_Revive n x145 ([] : (List Bool))) fun x147 => (Nd1 (store_Attach n x147) fun x149 => (bif (x149.2 == (0 : Int)) then (bif ((andU32 x149.1.mask v127.mask) == v127.mask) then (bif ((orU32 x149.1.mask v57.mask) == v57.mask) then (some ((orU32 v127.mask v57.mask) == v57.mask)) else (some false)) else (some false)) else (some false))))))
end
def law15_StoreMarks (n : Nat) (n_ : Int) (l : (List Int)) (wiped : (List Int)) : Option Bool :=
  (Bnd (law15_alive n) fun x1 => (bif (!x1) then (some false) else (bif (decide ((l.length : Int) > (50 : Int))) then (some true) else (bif (decide ((wiped.length : Int) > (50 : Int))) then (some true) else (Bnd (ref15_New n (wI64 ((1 : Int) + (wI64 (n_.tmod (32 : Int)))))) fun x6 => (law15_StoreMarks_L1 n n_ l wiped x1 x6 (0 : Int) x6))))))
theorem t_law15_StoreMarks {n : Nat} {n_ : Int} {l : (List Int)} {wiped : (List Int)} {r : Bool} (hg : law15_StoreMarks n n_ l wiped = some r) : VF Pg 4 [(.d (eU8 n_)), (.d ((eL eI64) l)), (.d ((eL eI64) wiped))] (single [(.d (eB r))]) := by
  refine fn_ok (fn := Tryz.f4) (by kernel_rfl) rfl (by kernel_rfl) (Nat.le_of_ble_eq_true (by kernel_rfl)) fun B hB => ?_
  refine aw_seq ?_
  refine rg (Z := Zt) 0 0 [] [] [(0, (.d (eU8 n_))), (1, (.d ((eL eI64) l))), (2, (.d ((eL eI64) wiped)))] [] [] hmx (by kernel_rfl) good_nil ?_
  refine aw_seq ?_
  refine aw_seq ?_
  obtain ⟨x1, h2, hg⟩ := bnd_o hg
  refine rg (Z := Zt) 0 0 [(0, .vf (.d (eB x1)))] [.vf 12 []] [(0, (.d (eU8 n_))), (1, (.d ((eL eI64) l))), (2, (.d ((eL eI64) wiped))), (18, (.d (eB (!x1))))] [] [] hmx (by kernel_rfl) (good_vf (t_law15_alive h2) rfl rfl good_nil) ?_
  rcases Bool.eq_false_or_eq_true (!x1) with h3 | h3
  · have hg := ite_t hg h3
    refine cd_t h3 (by kernel_rfl) ?_
    refine aw_seq ?_
    refine rg (Z := Zt) 0 0 [] [] [(6, (.d (eB false)))] [] [] hmx (by kernel_rfl) good_nil ?_
    refine aw_ret ?_
    have hg := some_o hg
    subst hg
    exact lv_r [true] [] (by kernel_rfl)
  · have hg := ite_f hg h3
    refine cd_f h3 (by kernel_rfl) ?_
    refine aw_skip ?_
    refine aw_seq ?_
    refine aw_seq ?_
    rcases Bool.eq_false_or_eq_true (decide ((l.length : Int) > (50 : Int))) with h4 | h4
    · have hg := ite_t hg h4
      refine rg (Z := Zt) 0 0 [(1, .op (.val (.d (eI64 (l.length : Int))))), (3, .op (.val (.d (eB true))))] [.op (xLen Pg 47 (.d ((eL eI64) l))), .op (some (.val (.d (eB (decide ((l.length : Int) > (50 : Int)))))))] [(0, (.d (eU8 n_))), (1, (.d ((eL eI64) l))), (2, (.d ((eL eI64) wiped))), (26, (.d (eB true)))] [] [] hmx (by kernel_rfl) (good_op (len_d (e := 3) (by kernel_rfl)) (good_op (bo h4) good_nil)) ?_
      refine cd_t rfl (by kernel_rfl) ?_
      refine aw_seq ?_
      refine rg (Z := Zt) 0 0 [] [] [(6, (.d (eB true)))] [] [] hmx (by kernel_rfl) good_nil ?_
      refine aw_ret ?_
      have hg := some_o hg
      subst hg
      exact lv_r [true] [] (by kernel_rfl)
    · have hg := ite_f hg h4
      refine rg (Z := Zt) 0 0 [(1, .op (.val (.d (eI64 (l.length : Int))))), (3, .op (.val (.d (eB false)))), (5, .op (.val (.d (eI64 (wiped.length : Int)))))] [.op (xLen Pg 47 (.d ((eL eI64) l))), .op (some (.val (.d (eB (decide ((l.length : Int) > (50 : Int))))))), .op (xLen Pg 47 (.d ((eL eI64) wiped)))] [(0, (.d (eU8 n_))), (1, (.d ((eL eI64) l))), (2, (.d ((eL eI64) wiped))), (26, (.d (eB (decide ((wiped.length : Int) > (50 : Int))))))] [] [] hmx (by kernel_rfl) (good_op (len_d (e := 3) (by kernel_rfl)) (good_op (bo h4) (good_op (len_d (e := 3) (by kernel_rfl)) good_nil))) ?_
      rcases Bool.eq_false_or_eq_true (decide ((wiped.length : Int) > (50 : Int))) with h5 | h5
      · have hg := ite_t hg h5
        refine cd_t h5 (by kernel_rfl) ?_
        refine aw_seq ?_
        refine rg (Z := Zt) 0 0 [] [] [(6, (.d (eB true)))] [] [] hmx (by kernel_rfl) good_nil ?_
        refine aw_ret ?_
        have hg := some_o hg
        subst hg
        exact lv_r [true] [] (by kernel_rfl)
      · have hg := ite_f hg h5
        refine cd_f h5 (by kernel_rfl) ?_
        refine aw_skip ?_
        refine aw_seq ?_
        obtain ⟨x6, h7, hg⟩ := bnd_o hg
        refine rg (Z := Zt) 1 0 [(4, .vf (.d (eStore x6)))] [.vf 14 [(.d (eI64 (wI64 ((1 : Int) + (wI64 (n_.tmod (32 : Int)))))))]] [(1, (.d ((eL eI64) l))), (2, (.d ((eL eI64) wiped))), (7, (.ptr 0 0))] [(.var (.d (eStore x6)))] [] hmx (by kernel_rfl) (good_vf (t_ref15_New h7) rfl rfl good_nil) ?_
        refine aw_seq ?_
        refine aw_seq ?_
        refine rg (Z := Zt) 0 0 [] [] [(1, (.d ((eL eI64) l))), (2, (.d ((eL eI64) wiped))), (7, (.ptr 0 0)), (8, (.d (eI64 (0 : Int))))] [(.var (.d (eStore x6)))] [] hmx (by kernel_rfl) good_nil ?_
        refine aw_block ?_
        refine aw_loop (fun μ σ => ∃ (v56 : Int) (v57 : Store), μ ≤ n ∧ law15_StoreMarks_L1 μ n_ l wiped x1 x6 v56 v57 = some r ∧ Wk B σ (st Tryz.f4.ntmps [(1, (.d ((eL eI64) l))), (2, (.d ((eL eI64) wiped))), (7, (.ptr 0 0)), (8, (.d (eI64 v56)))] [(.var (.d (eStore v57)))] [])) n ⟨(0 : Int), x6, Nat.le_refl _, hg, (Wk.refl _)⟩ ?_
        rintro μ σ ⟨v56, v57, hle, hg, hwk⟩
        refine aw_wk hwk ?_
        clear hwk
        cases μ with
        | zero => exact absurd (show none = some r from hg) (by simp)
        | succ n =>
          refine aw_seq ?_
          refine aw_seq ?_
          refine rg (Z := Zt) 0 0 [(2, .op (.val (.d (eI64 (l.length : Int)))))] [.op (xLen Pg 47 (.d ((eL eI64) l)))] [(1, (.d ((eL eI64) l))), (2, (.d ((eL eI64) wiped))), (7, (.ptr 0 0)), (8, (.d (eI64 v56))), (35, (.d (eB (decide (v56 < (l.length : Int))))))] [(.var (.d (eStore v57)))] [] hmx (by kernel_rfl) (good_op (len_d (e := 3) (by kernel_rfl)) good_nil) ?_
          rcases Bool.eq_false_or_eq_true (decide (v56 < (l.length : Int))) with h106 | h106
          · have hg := ite_t hg h106
            refine cd_t h106 (by kernel_rfl) ?_
            refine aw_skip ?_
            refine aw_seq ?_
            refine aw_block ?_
            refine aw_seq ?_
            obtain ⟨h107, hg⟩ := chk_o hg
            obtain ⟨x108, h109, hg⟩ := bnd_o hg
            refine rg (Z := Zt) 1 0 [(3, .op (.val (.kp (eI64 (gt l v56))))), (5, .vf (.tup [(.d (eStore x108.1)), (.d (eI64 x108.2))]))] [.op (xIdA Pg 47 (.d ((eL eI64) l)) (.d (eI64 v56))), .vf 19 [(.d (eStore v57)), (.d (eI64 (gt l v56)))]] [(1, (.d ((eL eI64) l))), (2, (.d ((eL eI64) wiped))), (7, (.ptr 0 0)), (8, (.d (eI64 v56))), (9, (.ptr 1 0)), (10, (.d (eI64 x108.2)))] [(.var (.d (eStore v57))), (.var (.d (eStore x108.1)))] [] hmx (by kernel_rfl) (good_op (idx_d (s := 1) (b := false) (by_ := 8) (by kernel_rfl) (fun _ => rfl) h107) (good_vf (t_store_Mark h109) rfl rfl good_nil)) ?_
            refine aw_seq ?_
            refine aw_seq ?_
            rcases Bool.eq_false_or_eq_true (decide ((gt l v56) ≥ (0 : Int))) with h110 | h110
            · have hg := ite_t hg h110
              refine rg (Z := Zt) 0 0 [(4, .op (.val (.kp (eI64 (gt l v56))))), (7, .op (.val (.d (eB true)))), (10, .op (.val (.kp (eI64 (gt l v56)))))] [.op (xIdA Pg 47 (.d ((eL eI64) l)) (.d (eI64 v56))), .op (some (.val (.d (eB (decide ((gt l v56) ≥ (0 : Int))))))), .op (xIdA Pg 47 (.d ((eL eI64) l)) (.d (eI64 v56)))] [(1, (.d ((eL eI64) l))), (2, (.d ((eL eI64) wiped))), (7, (.ptr 0 0)), (8, (.d (eI64 v56))), (9, (.ptr 1 0)), (64, (.d (eB (!((x108.2 == (0 : Int)) == (decide ((gt l v56) < v57.super.blocks)))))))] [(.var (.d (eStore v57))), (.var (.d (eStore x108.1)))] [] hmx (by kernel_rfl) (good_op (idx_d (s := 1) (b := false) (by_ := 8) (by kernel_rfl) (fun _ => rfl) h107) (good_op (bo h110) (good_op (idx_d (s := 1) (b := false) (by_ := 8) (by kernel_rfl) (fun _ => rfl) h107) good_nil))) ?_
              rcases Bool.eq_false_or_eq_true (!((x108.2 == (0 : Int)) == (decide ((gt l v56) < v57.super.blocks)))) with h111 | h111
              · have hg := ite_t hg h111
                refine cd_t h111 (by kernel_rfl) ?_
                refine aw_seq ?_
                refine rg (Z := Zt) 0 0 [] [] [(6, (.d (eB false)))] [(.var (.d (eStore v57))), (.var (.d (eStore x108.1)))] [] hmx (by kernel_rfl) good_nil ?_
                refine aw_ret ?_
                have hg := some_o hg
                subst hg
                exact lv_r [true] [] (by kernel_rfl)
              · have hg := ite_f hg h111
                refine cd_f h111 (by kernel_rfl) ?_
                refine aw_skip ?_
                refine rg (Z := Zt) 0 0 [] [] [(1, (.d ((eL eI64) l))), (2, (.d ((eL eI64) wiped))), (7, (.ptr 0 0)), (8, (.d (eI64 v56)))] [(.var (.d (eStore x108.1))), (.var (.d (eStore x108.1)))] [] hmx (by kernel_rfl) good_nil ?_
                refine rg (Z := Zt) 0 0 [] [] [(1, (.d ((eL eI64) l))), (2, (.d ((eL eI64) wiped))), (7, (.ptr 0 0)), (8, (.d (eI64 (wI64 (v56 + (1 : Int))))))] [(.var (.d (eStore x108.1))), (.var (.d (eStore x108.1)))] [] hmx (by kernel_rfl) good_nil ?_
                exact ⟨n, by omega, (wI64 (v56 + (1 : Int))), x108.1, by omega, hg, (wk_cut (l := [(1, (.d ((eL eI64) l))), (2, (.d ((eL eI64) wiped))), (7, (.ptr 0 0)), (8, (.d (eI64 (wI64 (v56 + (1 : Int))))))]) (h := [(.var (.d (eStore x108.1)))]) (k := []) hB 1 0 (by kernel_rfl) (by kernel_rfl))⟩
            · have hg := ite_f hg h110
              refine rg (Z := Zt) 0 0 [(4, .op (.val (.kp (eI64 (gt l v56))))), (7, .op (.val (.d (eB false))))] [.op (xIdA Pg 47 (.d ((eL eI64) l)) (.d (eI64 v56))), .op (some (.val (.d (eB (decide ((gt l v56) ≥ (0 : Int)))))))] [(1, (.d ((eL eI64) l))), (2, (.d ((eL eI64) wiped))), (7, (.ptr 0 0)), (8, (.d (eI64 v56))), (9, (.ptr 1 0)), (64, (.d (eB (!((x108.2 == (0 : Int)) == false)))))] [(.var (.d (eStore v57))), (.var (.d (eStore x108.1)))] [] hmx (by kernel_rfl) (good_op (idx_d (s := 1) (b := false) (by_ := 8) (by kernel_rfl) (fun _ => rfl) h107) (good_op (bo h110) good_nil)) ?_
              rcases Bool.eq_false_or_eq_true (!((x108.2 == (0 : Int)) == false)) with h112 | h112
              · have hg := ite_t hg h112
                refine cd_t h112 (by kernel_rfl) ?_
                refine aw_seq ?_
                refine rg (Z := Zt) 0 0 [] [] [(6, (.d (eB false)))] [(.var (.d (eStore v57))), (.var (.d (eStore x108.1)))] [] hmx (by kernel_rfl) good_nil ?_
                refine aw_ret ?_
                have hg := some_o hg
                subst hg
                exact lv_r [true] [] (by kernel_rfl)
              · have hg := ite_f hg h112
                refine cd_f h112 (by kernel_rfl) ?_
                refine aw_skip ?_
                refine rg (Z := Zt) 0 0 [] [] [(1, (.d ((eL eI64) l))), (2, (.d ((eL eI64) wiped))), (7, (.ptr 0 0)), (8, (.d (eI64 v56)))] [(.var (.d (eStore x108.1))), (.var (.d (eStore x108.1)))] [] hmx (by kernel_rfl) good_nil ?_
                refine rg (Z := Zt) 0 0 [] [] [(1, (.d ((eL eI64) l))), (2, (.d ((eL eI64) wiped))), (7, (.ptr 0 0)), (8, (.d (eI64 (wI64 (v56 + (1 : Int))))))] [(.var (.d (eStore x108.1))), (.var (.d (eStore x108.1)))] [] hmx (by kernel_rfl) good_nil ?_
                exact ⟨n, by omega, (wI64 (v56 + (1 : Int))), x108.1, by omega, hg, (wk_cut (l := [(1, (.d ((eL eI64) l))), (2, (.d ((eL eI64) wiped))), (7, (.ptr 0 0)), (8, (.d (eI64 (wI64 (v56 + (1 : Int))))))]) (h := [(.var (.d (eStore x108.1)))]) (k := []) hB 1 0 (by kernel_rfl) (by kernel_rfl))⟩
          · have hg := ite_f hg h106
            refine cd_f h106 (by kernel_rfl) ?_
            refine aw_exit ?_
            refine aw_seq ?_
            refine rg (Z := Zt) 0 0 [] [] [(2, (.d ((eL eI64) wiped))), (7, (.ptr 0 0)), (11, (.d (eU32 v57.mask)))] [(.var (.d (eStore v57)))] [] hmx (by kernel_rfl) good_nil ?_
            refine aw_seq ?_
            refine aw_seq ?_
            refine rg (Z := Zt) 0 0 [] [] [(2, (.d ((eL eI64) wiped))), (7, (.ptr 0 0)), (11, (.d (eU32 v57.mask))), (12, (.d (eI64 (0 : Int))))] [(.var (.d (eStore v57)))] [] hmx (by kernel_rfl) good_nil ?_
            refine aw_block ?_
            refine aw_loop (fun μ σ => ∃ (v126 : Int) (v127 : Store), μ ≤ n ∧ law15_StoreMarks_L2 μ n_ l wiped x1 x6 v56 v57 v126 v127 = some r ∧ Wk B σ (st Tryz.f4.ntmps [(2, (.d ((eL eI64) wiped))), (7, (.ptr 0 0)), (11, (.d (eU32 v57.mask))), (12, (.d (eI64 v126)))] [(.var (.d (eStore v127)))] [])) n ⟨(0 : Int), v57, Nat.le_refl _, hg, (Wk.refl _)⟩ ?_
            rintro μ σ ⟨v126, v127, hle, hg, hwk⟩
            refine aw_wk hwk ?_
            clear hwk
            cases μ with
            | zero => exact absurd (show none = some r from hg) (by simp)
            | succ n =>
              refine aw_seq ?_
              refine aw_seq ?_
              refine rg (Z := Zt) 0 0 [(2, .op (.val (.d (eI64 (wiped.length : Int)))))] [.op (xLen Pg 47 (.d ((eL eI64) wiped)))] [(2, (.d ((eL eI64) wiped))), (7, (.ptr 0 0)), (11, (.d (eU32 v57.mask))), (12, (.d (eI64 v126))), (71, (.d (eB (decide (v126 < (wiped.length : Int))))))] [(.var (.d (eStore v127)))] [] hmx (by kernel_rfl) (good_op (len_d (e := 3) (by kernel_rfl)) good_nil) ?_
              rcases Bool.eq_false_or_eq_true (decide (v126 < (wiped.length : Int))) with h141 | h141
              · have hg := ite_t hg h141
                refine cd_t h141 (by kernel_rfl) ?_
                refine aw_skip ?_
                refine aw_seq ?_
                refine aw_block ?_
                refine aw_seq ?_
                obtain ⟨h142, hg⟩ := chk_o hg
                obtain ⟨x143, h144, hg⟩ := bnd_o hg
                refine rg (Z := Zt) 1 0 [(3, .op (.val (.kp (eI64 (gt wiped v126))))), (5, .vf (.tup [(.d (eStore x143.1)), (.d (eI64 x143.2))]))] [.op (xIdA Pg 47 (.d ((eL eI64) wiped)) (.d (eI64 v126))), .vf 20 [(.d (eStore v127)), (.d (eI64 (gt wiped v126)))]] [(2, (.d ((eL eI64) wiped))), (7, (.ptr 0 0)), (11, (.d (eU32 v57.mask))), (12, (.d (eI64 v126))), (13, (.ptr 1 0))] [(.var (.d (eStore v127))), (.var (.d (eStore x143.1)))] [] hmx (by kernel_rfl) (good_op (idx_d (s := 1) (b := false) (by_ := 8) (by kernel_rfl) (fun _ => rfl) h142) (good_vf (t_store_Wipe h144) rfl rfl good_nil)) ?_
                refine rg (Z := Zt) 0 0 [] [] [(2, (.d ((eL eI64) wiped))), (7, (.ptr 0 0)), (11, (.d (eU32 v57.mask))), (12, (.d (eI64 v126)))] [(.var (.d (eStore x143.1))), (.var (.d (eStore x143.1)))] [] hmx (by kernel_rfl) good_nil ?_
                refine rg (Z := Zt) 0 0 [] [] [(2, (.d ((eL eI64) wiped))), (7, (.ptr 0 0)), (11, (.d (eU32 v57.mask))), (12, (.d (eI64 (wI64 (v126 + (1 : Int))))))] [(.var (.d (eStore x143.1))), (.var (.d (eStore x143.1)))] [] hmx (by kernel_rfl) good_nil ?_
                exact ⟨n, by omega, (wI64 (v126 + (1 : Int))), x143.1, by omega, hg, (wk_cut (l := [(2, (.d ((eL eI64) wiped))), (7, (.ptr 0 0)), (11, (.d (eU32 v57.mask))), (12, (.d (eI64 (wI64 (v126 + (1 : Int))))))]) (h := [(.var (.d (eStore x143.1)))]) (k := []) hB 1 0 (by kernel_rfl) (by kernel_rfl))⟩
              · have hg := ite_f hg h141
                refine cd_f h141 (by kernel_rfl) ?_
                refine aw_exit ?_
                refine aw_seq ?_
                obtain ⟨x145, h146, hg⟩ := let_o hg
                obtain ⟨x147, h148, hg⟩ := bnd_o hg
                obtain ⟨x149p, h150, hg⟩ := nd1_o hg
                refine rg_nd (Z := Zt) 1 0 4 89 [(2, .vf (.d (eDisk x145))), (3, .vf (.d (eDisk x147)))] [.vf 23 [(.d (eDisk v127.disk))], .vf 22 [(.d (eDisk x145)), (.d ((eL eB) ([] : (List Bool))))]] [(7, (.ptr 0 0)), (11, (.d (eU32 v57.mask))), (88, (.d (eDisk x147)))] [(.var (.d (eStore v127))), .hole] [] (fun b => (.tup [(.d (eStore (sel b x149p).1)), (.d (eI64 (sel b x149p).2))])) (by kernel_rfl) (good_vf (t_ref04_Crash h146) rfl rfl (good_vf (t_ref04_Revive h148) rfl rfl good_nil)) (by kernel_rfl) (t_store_Attach h150) rfl (fun _ => rfl) fun x149b => ?_
                generalize hsx149 : sel x149b x149p = x149
                have hg := hg x149b x149 hsx149.symm
                refine rg_tl (Z := Zt) 1 0 [] [] [(7, (.ptr 0 0)), (11, (.d (eU32 v57.mask))), (15, (.ptr 1 0)), (16, (.d (eI64 x149.2)))] [(.var (.d (eStore v127))), (.var (.d (eStore x149.1)))] [] (by kernel_rfl) good_nil ?_
                refine aw_seq ?_
                rcases Bool.eq_false_or_eq_true (x149.2 == (0 : Int)) with h151 | h151
                · have hg := ite_t hg h151
                  rcases Bool.eq_false_or_eq_true ((andU32 x149.1.mask v127.mask) == v127.mask) with h152 | h152
                  · have hg := ite_t hg h152
                    rcases Bool.eq_false_or_eq_true ((orU32 x149.1.mask v57.mask) == v57.mask) with h153 | h153
                    · have hg := ite_t hg h153
                      refine rg (Z := Zt) 0 0 [(2, .op (.val (.d (eB true)))), (12, .op (.val (.d (eB true)))), (20, .op (.val (.d (eB true))))] [.op (some (.val (.d (eB (x149.2 == (0 : Int)))))), .op (some (.val (.d (eB ((andU32 x149.1.mask v127.mask) == v127.mask))))), .op (some (.val (.d (eB ((orU32 x149.1.mask v57.mask) == v57.mask)))))] [(6, (.d (eB ((orU32 v127.mask v57.mask) == v57.mask))))] [(.var (.d (eStore v127))), (.var (.d (eStore x149.1)))] [] hmx (by kernel_rfl) (good_op (bo h151) (good_op (bo h152) (good_op (bo h153) good_nil))) ?_
                      refine aw_ret ?_
                      have hg := some_o hg
                      subst hg
                      exact lv_r [true] [] (by kernel_rfl)
                    · have hg := ite_f hg h153
                      refine rg (Z := Zt) 0 0 [(2, .op (.val (.d (eB true)))), (12, .op (.val (.d (eB true)))), (20, .op (.val (.d (eB false))))] [.op (some (.val (.d (eB (x149.2 == (0 : Int)))))), .op (some (.val (.d (eB ((andU32 x149.1.mask v127.mask) == v127.mask))))), .op (some (.val (.d (eB ((orU32 x149.1.mask v57.mask) == v57.mask)))))] [(6, (.d (eB false)))] [(.var (.d (eStore v127))), (.var (.d (eStore x149.1)))] [] hmx (by kernel_rfl) (good_op (bo h151) (good_op (bo h152) (good_op (bo h153) good_nil))) ?_
                      refine aw_ret ?_
                      have hg := some_o hg
                      subst hg
                      exact lv_r [true] [] (by kernel_rfl)
                  · have hg := ite_f hg h152
                    refine rg (Z := Zt) 0 0 [(2, .op (.val (.d (eB true)))), (12, .op (.val (.d (eB false))))] [.op (some (.val (.d (eB (x149.2 == (0 : Int)))))), .op (some (.val (.d (eB ((andU32 x149.1.mask v127.mask) == v127.mask)))))] [(6, (.d (eB false)))] [(.var (.d (eStore v127))), (.var (.d (eStore x149.1)))] [] hmx (by kernel_rfl) (good_op (bo h151) (good_op (bo h152) good_nil)) ?_
                    refine aw_ret ?_
                    have hg := some_o hg
                    subst hg
                    exact lv_r [true] [] (by kernel_rfl)
                · have hg := ite_f hg h151
                  refine rg (Z := Zt) 0 0 [(2, .op (.val (.d (eB false))))] [.op (some (.val (.d (eB (x149.2 == (0 : Int))))))] [(6, (.d (eB false)))] [(.var (.d (eStore v127))), (.var (.d (eStore x149.1)))] [] hmx (by kernel_rfl) (good_op (bo h151) good_nil) ?_
                  refine aw_ret ?_
                  have hg := some_o hg
                  subst hg
                  exact lv_r [true] [] (by kernel_rfl)
end Go.Am
