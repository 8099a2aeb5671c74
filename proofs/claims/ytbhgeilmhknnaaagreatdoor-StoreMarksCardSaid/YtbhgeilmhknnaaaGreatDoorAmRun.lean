/- The abstract machine, part 11: states, regions in order, code. -/
import Derived.Test.YtbhgeilmhknnaaaGreatDoorAmOp
import Derived.Tactics
namespace Go.Am

structure AS where
  n : Nat
  t : Nat → AV
  h : List Box
  k : List (Option Nat)

def cst : Value → AV
  | .bool b => .d (.bool b)
  | .int k n => .d (.int k n)
  | .string s => .d (.str s.data.toList)
  | .slice none 0 0 => .full []
  | v => if v.oneCell' = true then .con v else .any
def AS.ev (s : AS) : Operand → AV
  | .tmp i => s.t i
  | .const v => cst v
  | .global g => .con (.pointer (some ⟨g, 0, none⟩))
  | .func f => .fn f []
def AS.put (s : AS) (d : Option Nat) (v : AV) : AS :=
  match d with
  | none => s
  | some d => { s with t := fun i => if i = d ∧ d < s.n then v else s.t i }
def AS.app (s : AS) (d : Option Nat) (r : OR) : AS := { s with h := r.h s.h, k := r.k s.k }.put d r.v

structure Sim (G : Gh) (s : AS) (a : Act) (w : World) : Prop where
  heap : HeapOK G s.h w
  k : G.k = s.k
  defers : a.defers = []
  size : a.tmps.size = s.n
  tmp : ∀ i, OccV G (s.t i) (a.tmps.getD i undef)

theorem occV_cst (G : Gh) (v : Value) : OccV G (cst v) v := by
  unfold cst
  split
  · exact occV_of_bool _
  · exact occV_of_int _ _
  · rename_i s
    have : s = ⟨s.data.toList.toArray⟩ := by
      apply ByteArray.ext
      simp
    conv => rhs; rw [this]
    exact occV_of_str _
  · exact .one rfl .fulln
  · split
    · rename_i h
      exact .one rfl (.con h)
    · exact .any _

theorem Sim.ev {G : Gh} {s : AS} {a : Act} {w : World} (h : Sim G s a w) (x : Operand) : OccV G (s.ev x) (a.eval x) := by
  cases x with
  | tmp i => exact h.tmp i
  | const v => exact occV_cst G v
  | global g => exact .one rfl (.con rfl)
  | func f => exact .one rfl (.fn (vs := []) .nil)

theorem Sim.put {G : Gh} {s : AS} {a : Act} {w : World} (h : Sim G s a w) (d : Option Nat) {x : AV} {v : Value} (hv : OccV G x v) : Sim G (s.put d x) (a.put d v) w := by
  cases d with
  | none => exact h
  | some d =>
    refine ⟨h.heap, h.k, h.defers, by simp [Act.put, AS.put, h.size], fun i => ?_⟩
    have ht := h.tmp i
    simp only [AS.put, Act.put, Array.getD_eq_getD_getElem?] at ht ⊢
    split
    · rename_i hc
      obtain ⟨rfl, hlt⟩ := hc
      have : i < a.tmps.size := by rw [h.size]; exact hlt
      rw [Array.getElem?_setIfInBounds_self_of_lt this]
      exact hv
    · rename_i hc
      by_cases hid : i = d
      · subst hid
        have hge : a.tmps.size ≤ i := by
          rw [h.size]
          exact Nat.le_of_not_lt fun hl => hc ⟨rfl, hl⟩
        rw [Array.getElem?_eq_none (by simpa using hge)]
        rw [Array.getElem?_eq_none hge] at ht
        exact ht
      · rw [Array.getElem?_setIfInBounds_ne (fun e => hid e.symm)]
        exact ht

theorem Sim.move {G G' : Gh} {s : AS} {a : Act} {w w' : World} {h' : List Box} {k' : List (Option Nat)} (h : Sim G s a w) (hh : HeapOK G' h' w') (hk : G'.k = k') (hle : G.le G') : Sim G' { s with h := h', k := k' } a w' :=
  ⟨hh, hk, h.defers, h.size, fun i => occV_le hle (h.tmp i)⟩

structure Base where
  G : Gh
  w : World
  ok : KOK G
def Inv (B : Base) (s : AS) (a : Act) (w : World) : Prop := ∃ G, Sim G s a w ∧ Ext B.G G B.w w

/-! ### calls -/
def enters (P : Program) (f : FuncId) : Bool :=
  match P.funcs[f]? with
  | some fn => fn.body.isSome && !(fn.name == "runtime.NumGoroutine")
  | none => false
/-- What a call comes to, whatever is at the boxes and tokens. -/
def CallOK (P : Program) (f : FuncId) (args : List AV) (h : List Box) (k : List (Option Nat)) (r : AV) (h' : List Box) (k' : List (Option Nat)) : Prop :=
  enters P f = true ∧ ∀ (G : Gh) (w : World) (cs : List Value), HeapOK G h w → KOK G → G.k = k → OccVL G args cs →
    Calls P f cs.toArray w fun e w' => ∃ G' v, e = .returned v ∧ HeapOK G' h' w' ∧ G'.k = k' ∧ Ext G G' w w' ∧ OccV G' r v
def setAll {α : Type} : List α → List Nat → List α → List α
  | h, i :: m, x :: e => setAll (h.set i x) m e
  | h, _, _ => h
/-- The same of some boxes and tokens alone, whatever is beside them. -/
def CallL (P : Program) (f : FuncId) (args : List AV) (m : List Nat) (E : List Box) (mt : List Nat) (T : List (Option Nat)) (r : AV) (E' : List Box) (T' : List (Option Nat)) : Prop :=
  ∀ h k, m.map (h[·]?) = E.map some → mt.map (k[·]?) = T.map some → CallOK P f args h k r (setAll h m E') (setAll k mt T')

def callOf (s : AS) (o : Op) : Option (FuncId × List AV) :=
  match o with
  | .call c => match c.callee with
    | .value x => match s.ev x with
      | .fn f cap => some (f, c.args.toList.map s.ev ++ cap)
      | _ => none
    | _ => none
  | _ => none

/-! ### one region, in order -/
/-- What an operation touches. -/
structure Ft where
  dst : Option Nat
  rd : List Nat
  wr : List Nat
  tk : List Nat
def boxOf : AV → List Nat
  | .ptr b _ | .eptr b _ _ | .msl b _ => [b]
  | _ => []
def rdOf (s : AS) : Op → List Nat
  | .load _ a => boxOf (s.ev a)
  | .convert _ _ a => boxOf (s.ev a)
  | _ => []
def wrOf : OR → List Nat
  | .box b _ _ => [b]
  | _ => []
def tkOf : OR → List Nat
  | .tok t _ _ => [t]
  | _ => []
def boxesOf : Op → Nat
  | .alloc _ | .box _ _ | .makeSlice _ _ _ => 1
  | _ => 0
def toksOf : Op → Nat
  | .call c => match c.callee with
    | .builtin .append => 1
    | _ => 0
  | _ => 0
def guardOf (ops : List Oper) (s : AS) : Option (Nat × Bool) → Option Bool
  | none => some true
  | some (j, want) => match (ops[j]?).bind (·.dst) with
    | some d => match s.t d with
      | .d (.bool b) => if d < s.n then some (b == want) else none
      | .tup [] => some false
      | _ => none
    | none => none

def ARun (P : Program) (Z : Zeros P) (ops : List Oper) : List Oper → Nat → Nat → List Ft → AS → (List Ft → AS → Prop) → Prop
  | [], _, _, acc, s, K => K acc s
  | o :: rest, nb, nk, acc, s, K =>
    ∃ g, guardOf ops s o.guard = some g ∧
    (g = false → ARun P Z ops rest (nb + boxesOf o.op) (nk + toksOf o.op) (acc ++ [⟨o.dst, [], [], []⟩]) (s.put o.dst (.tup [])) K) ∧
    (g = true → match callOf s o.op with
      | some (f, args) => ∃ m E mt T r E' T', m.map (s.h[·]?) = E.map some ∧ mt.map (s.k[·]?) = T.map some ∧ CallL P f args m E mt T r E' T' ∧
          ARun P Z ops rest (nb + boxesOf o.op) (nk + toksOf o.op) (acc ++ [⟨o.dst, m, m, mt⟩]) ({ s with h := setAll s.h m E', k := setAll s.k mt T' }.put o.dst r) K
      | none => ∃ r, evOp P Z o.op s.ev s.h s.k nb nk = some r ∧
          ARun P Z ops rest (nb + boxesOf o.op) (nk + toksOf o.op) (acc ++ [⟨o.dst, rdOf s o.op, wrOf r, tkOf r⟩]) (s.app o.dst r) K)

section
variable {P : Program} {Z : Zeros P} {B : Base}

theorem occV_undef (G : Gh) : OccV G (.tup []) undef := .tup .nil

theorem guard_sound {G : Gh} {ops : Array Oper} {s : AS} {a : Act} {w : World} {o : Oper} {g : Bool} (h : Sim G s a w) (e : guardOf ops.toList s o.guard = some g) : Region.wanted o (yielded ops a.tmps) = g := by
  unfold guardOf at e
  unfold Region.wanted
  split at e
  · rename_i hg
    cases e
    simp [hg]
  · rename_i j want hg
    simp only [hg]
    split at e
    · rename_i d hd
      have hd' : (ops[j]?).bind (·.dst) = some d := by simpa using hd
      have ht := h.tmp d
      split at e
      · rename_i b hb
        split at e
        · rename_i hlt
          cases e
          rw [hb] at ht
          have hv := occV_bool ht
          rw [Array.getD_eq_getD_getElem?] at hv
          have hsz : d < a.tmps.size := by rw [h.size]; exact hlt
          rw [Array.getElem?_eq_getElem hsz, Option.getD_some] at hv
          have : a.tmps[d]? = some (.bool b) := by
            rw [Array.getElem?_eq_getElem hsz, hv]
          simp only [yielded, hd', Option.bind_some, this]
          cases b <;> cases want <;> rfl
        · cases e
      · rename_i hb
        cases e
        rw [hb] at ht
        have hv : a.tmps.getD d undef = .tuple #[] := by
          generalize a.tmps.getD d undef = c at ht
          cases ht with
          | one _ h => cases h
          | agg h _ => cases h
          | tup h => cases h; rfl
        rw [Array.getD_eq_getD_getElem?] at hv
        have : yielded ops a.tmps j = none := by
          simp only [yielded, hd', Option.bind_some]
          cases hx : a.tmps[d]? with
          | none => rfl
          | some v =>
            rw [hx, Option.getD_some] at hv
            subst hv
            rfl
        simp [this]
      · cases e
    · cases e

/-- An operation that isn't a call, in a state. -/
theorem op_sound {o : Oper} {nb nk : Nat} {r : OR} {s : AS} {a : Act} {w : World} {Q : Exit → Act → World → Prop} {K : Act → World → Prop} (h : Inv B s a w) (hr : evOp P Z o.op s.ev s.h s.k nb nk = some r) (hK : ∀ a' w', Inv B (s.app o.dst r) a' w' → K a' w') :
    o.wp P a w K Q := by
  obtain ⟨G, hs, hx⟩ := h
  rw [← hs.k] at hr
  obtain ⟨nx, w', G', v, h1, h2, h3, h4, h5, h6⟩ := op_okay (Z := Z) (o := o) hs.heap hs.ev hr
  unfold Oper.wp
  rw [h1]
  have hfin : Inv B (s.app o.dst r) (a.put o.dst v) w' := ⟨G', (hs.move h3 (h4.trans (by rw [hs.k])) h5.le).put o.dst h6, hx.trans h5⟩
  rcases h2 with rfl | ⟨rfl, rfl⟩
  · exact hK _ _ hfin
  · exact hK _ _ hfin

/-- A call, in a state. -/
theorem call_sound {o : Oper} {f : FuncId} {args : List AV} {r : AV} {h' : List Box} {k' : List (Option Nat)} {s : AS} {a : Act} {w : World} {Q : Exit → Act → World → Prop} {K : Act → World → Prop} (h : Inv B s a w) (hc : callOf s o.op = some (f, args))
    (hok : CallOK P f args s.h s.k r h' k') (hK : ∀ a' w', Inv B ({ s with h := h', k := k' }.put o.dst r) a' w' → K a' w') : o.wp P a w K Q := by
  obtain ⟨G, hs, hx⟩ := h
  unfold callOf at hc
  split at hc
  · rename_i c hop
    split at hc
    · rename_i x hcal
      split at hc
      · rename_i f' cap hev
        simp only [Option.some.injEq, Prod.mk.injEq] at hc
        obtain ⟨rfl, rfl⟩ := hc
        obtain ⟨hent, hok⟩ := hok
        have hxv := hs.ev x
        rw [hev] at hxv
        obtain ⟨vs, heq, hvs⟩ : ∃ vs, a.eval x = .func (.func f') #[] vs.toArray ∧ OccVL G cap vs := by
          generalize a.eval x = c at hxv
          cases occV_leaf hxv rfl rfl with
          | fn h => exact ⟨_, rfl, h⟩
        have hargs := occVL_of hs.ev c.args.toList
        have hall : OccVL G (c.args.toList.map s.ev ++ cap) (c.args.toList.map a.eval ++ vs) := by
          generalize c.args.toList.map s.ev = l1 at hargs ⊢
          generalize c.args.toList.map a.eval = l2 at hargs ⊢
          clear hok hK
          induction l1 generalizing l2 with
          | nil => cases hargs; exact hvs
          | cons y l1 ih => cases hargs with
            | cons h1 h2 => exact .cons h1 (ih _ h2)
        have hcalls := hok G w _ hs.heap (B.ok.le hx.le) hs.k hall
        unfold enters at hent
        split at hent
        · rename_i fn hfn
          simp only [Bool.and_eq_true, Bool.not_eq_true', Option.isSome_iff_exists, beq_eq_false_iff_ne, ne_eq] at hent
          obtain ⟨⟨body, hbody⟩, hname⟩ := hent
          have hcf : ∀ as : Array Value, (callFunc f' as).run P w = .ok (.enter f' as) w := by
            intro as
            simp [callFunc, hfn, hbody, hname]
          have hrun : (execOp a.eval o).run P w = .ok (.enter f' (c.args.toList.map a.eval ++ vs).toArray) w := by
            unfold execOp
            rw [hop]
            simp [resolve, hcal, heq, Deferred.ofValue, invoke, hcf]
          unfold Oper.wp
          rw [hrun, Oper.upon_enter]
          refine hcalls.mono ?_
          rintro e w' ⟨G', v, rfl, h1, h2, h3, h4⟩
          exact hK _ _ ⟨G', (hs.move h1 h2 h3.le).put o.dst h4, hx.trans h3⟩
        · cases hent
      · cases hc
    · cases hc
  · cases hc
end
end Go.Am
