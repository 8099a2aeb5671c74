/- The shapes of the types, and what a thing of a shape is. Printed by geng.py. -/
import Derived.Test.YtbhgeilmhknnaaaGreatDoorAmSeat
import Derived.Test.YtbhgeilmhknnaaaGreatDoorAmBridge
namespace Go.Am
open Go.Proofs
def tyVector : Ty := .st [(.int .u64), (.int .u64), (.st [(.int .u64), (.int .u64)])]
def wfVector (x : Vector) : Prop := (Lit.int .u64 x.current).wf = true ∧ (Lit.int .u64 x.bitmap).wf = true ∧ ((Lit.int .u64 x.old.a0).wf = true ∧ (Lit.int .u64 x.old.a1).wf = true)
theorem has_Vector {x : D} (h : Has tyVector x) : ∃ a, x = eVector a ∧ wfVector a := by
  obtain ⟨l, rfl, h0⟩ := has_st h
  obtain ⟨y1, l1, rfl, g1, h1⟩ := hasL_cons h0
  obtain ⟨v1, rfl, q1⟩ := has_int g1
  obtain ⟨y2, l2, rfl, g2, h2⟩ := hasL_cons h1
  obtain ⟨v2, rfl, q2⟩ := has_int g2
  obtain ⟨y3, l3, rfl, g3, h3⟩ := hasL_cons h2
  obtain ⟨m3, rfl, k3⟩ := has_st g3
  obtain ⟨z3_0, m3_0, rfl, g3_0, k3_0⟩ := hasL_cons k3
  obtain ⟨v3_0, rfl, q3_0⟩ := has_int g3_0
  obtain ⟨z3_1, m3_1, rfl, g3_1, k3_1⟩ := hasL_cons k3_0
  obtain ⟨v3_1, rfl, q3_1⟩ := has_int g3_1
  obtain rfl := hasL_nil k3_1
  obtain rfl := hasL_nil h3
  exact ⟨⟨v1, v2, ⟨v3_0, v3_1⟩⟩, rfl, ⟨q1, q2, ⟨q3_0, q3_1⟩⟩⟩
def tySuper : Ty := .st [(.int .i64), tyVector, .bool, .bool, .bool]
def wfSuper (x : Super) : Prop := (Lit.int .i64 x.blocks).wf = true ∧ wfVector x.vector ∧ True ∧ True ∧ True
theorem has_Super {x : D} (h : Has tySuper x) : ∃ a, x = eSuper a ∧ wfSuper a := by
  obtain ⟨l, rfl, h0⟩ := has_st h
  obtain ⟨y1, l1, rfl, g1, h1⟩ := hasL_cons h0
  obtain ⟨v1, rfl, q1⟩ := has_int g1
  obtain ⟨y2, l2, rfl, g2, h2⟩ := hasL_cons h1
  obtain ⟨v2, rfl, q2⟩ := has_Vector g2
  obtain ⟨y3, l3, rfl, g3, h3⟩ := hasL_cons h2
  obtain ⟨v3, rfl⟩ := has_bool g3
  obtain ⟨y4, l4, rfl, g4, h4⟩ := hasL_cons h3
  obtain ⟨v4, rfl⟩ := has_bool g4
  obtain ⟨y5, l5, rfl, g5, h5⟩ := hasL_cons h4
  obtain ⟨v5, rfl⟩ := has_bool g5
  obtain rfl := hasL_nil h5
  exact ⟨⟨v1, v2, v3, v4, v5⟩, rfl, ⟨q1, q2, trivial, trivial, trivial⟩⟩
def tyAct_law15 : Ty := .st [(.int .i64), (.int .i64), (.int .u32), .str, tySuper]
def wfAct_law15 (x : Act_law15) : Prop := (Lit.int .i64 x.kind).wf = true ∧ (Lit.int .i64 x.block).wf = true ∧ (Lit.int .u32 x.mask).wf = true ∧ x.data.length ≤ maxLen ∧ wfSuper x.super
theorem has_Act_law15 {x : D} (h : Has tyAct_law15 x) : ∃ a, x = eAct_law15 a ∧ wfAct_law15 a := by
  obtain ⟨l, rfl, h0⟩ := has_st h
  obtain ⟨y1, l1, rfl, g1, h1⟩ := hasL_cons h0
  obtain ⟨v1, rfl, q1⟩ := has_int g1
  obtain ⟨y2, l2, rfl, g2, h2⟩ := hasL_cons h1
  obtain ⟨v2, rfl, q2⟩ := has_int g2
  obtain ⟨y3, l3, rfl, g3, h3⟩ := hasL_cons h2
  obtain ⟨v3, rfl, q3⟩ := has_int g3
  obtain ⟨y4, l4, rfl, g4, h4⟩ := hasL_cons h3
  obtain ⟨v4, rfl, q4⟩ := has_str g4
  obtain ⟨y5, l5, rfl, g5, h5⟩ := hasL_cons h4
  obtain ⟨v5, rfl, q5⟩ := has_Super g5
  obtain rfl := hasL_nil h5
  exact ⟨⟨v1, v2, v3, v4, v5⟩, rfl, ⟨q1, q2, q3, q4, q5⟩⟩
end Go.Am
