/- The abstract machine, part 10: one operation, whichever it is (calls of functions aside). -/
import Derived.Test.YtbhgeilmhknnaaaGreatDoorAmRest
namespace Go.Am
section
variable {P : Program} {G : Gh} {h : List Box} {w : World}

def ezero (P : Program) (t : TypeId) : Bool :=
  match P.underlying t with
  | some (.slice e) => match P.info? e with
    | some i => match i.zero with
      | some z => z.cells.size == i.size
      | none => false
    | none => false
  | _ => false
theorem ezero_spec {t : TypeId} (h : ezero P t = true) : elemZero P t := by
  unfold ezero at h
  split at h
  · rename_i e hu
    split at h
    · rename_i i hi
      split at h
      · rename_i z hz
        exact ⟨e, i, z, hu, hi, hz, by simpa using h⟩
      · cases h
    · cases h
  · cases h

def evIface (P : Program) (t : TypeId) (x : AV) : Option AV :=
  match P.underlying t with
  | some (.interface _) => none
  | some _ => some (.iface t x)
  | none => none
theorem iface_okay {t : TypeId} {x v : AV} {c : Value} (hx : OccV G x c) (e : evIface P t x = some v) : ∃ u, (Instr.makeInterface t c).run P w = .ok u w ∧ OccV G v u := by
  unfold evIface at e
  split at e
  · cases e
  · rename_i d hne hu
    cases e
    refine ⟨.iface t c, ?_, .one rfl (.iface hx)⟩
    cases d <;> first | (simp [Instr.makeInterface, run_underlying hu]; done) | exact absurd rfl (hne _)
  · cases e

def evMM (f : Int → Int → Int) : List AV → Option AV
  | [.d (.int k a), .d (.int k' b)] => if k = k' then some (.d (.int k (f a b))) else none
  | _ => none
def mn2 (a b : Int) : Int := if b < a then b else a
def mx2 (a b : Int) : Int := if b > a then b else a

def evCap (P : Program) (t : TypeId) (x : AV) : Option AV :=
  match P.underlying t with
  | some (.array n _) => some (.d (.int .i64 n))
  | some (.slice _) => match x with
    | .full l => some (.d (.int .i64 l.length))
    | _ => none
  | _ => none
theorem cap_okay {t ty : TypeId} {x v : AV} {c : Value} (hx : OccV G x c) (e : evCap P t x = some v) : ∃ u, (Builtin.cap_ #[t] ty #[c]).run P w = .ok u w ∧ OccV G v u := by
  unfold evCap at e
  split at e
  · rename_i n el hu
    cases e
    exact ⟨_, by simp [Builtin.cap_, run_underlying hu, goInt], occV_of_int _ _⟩
  · rename_i el hu
    split at e
    · cases e
      cases occV_leaf hx rfl rfl with
      | fulln => exact ⟨_, by simp [Builtin.cap_, run_underlying hu, goInt], occV_of_int _ _⟩
      | full hsz hr => exact ⟨_, by simp [Builtin.cap_, run_underlying hu, goInt], occV_of_int _ _⟩
    · cases e
  · cases e

def evBuiltin (P : Program) (b : Builtin) (tys : List TypeId) (args : List AV) (k : List (Option Nat)) (nk : Nat) : Option OR :=
  match b, tys, args with
  | .len, [t], [x] => (evLen P t x).map .val
  | .cap, [t], [x] => (evCap P t x).map .val
  | .append, [t, tx], [s, x] => if ezero P t = true then evApp P t tx s x k nk else none
  | .min, _, l => (evMM mn2 l).map .val
  | .max, _, l => (evMM mx2 l).map .val
  | _, _, _ => none

/-- What an operation comes to (calls of functions aside): 'nb', 'nk' are the box and the token that are free for it. -/
def evOp (P : Program) (Z : Zeros P) (o : Op) (e : Operand → AV) (h : List Box) (k : List (Option Nat)) (nb nk : Nat) : Option OR :=
  match o with
  | .move x => some (.val (e x))
  | .assign x => some (.val (e x))
  | .pick c a b => (evPick (e c) (e a) (e b)).map .val
  | .alloc t => (Z.z t).bind fun z => evNew nb z h
  | .box _ x => evNew nb (e x) h
  | .build t ps => (evBuild P Z t (ps.toList.map fun p => (p.1, e p.2))).map .val
  | .buildSlice t n ps => if ezero P t = true then (evBuildSlice P t n (ps.toList.map fun p => (p.1, e p.2))).map .val else none
  | .load t a => (evLoad P t (e a) h).map .val
  | .store t a x => evStore P t (e a) (e x) h
  | .nilCheck x => (evNil (e x)).map .val
  | .binOp op t x y _ => (evBin P op t (isConst x || isConst y) (e x) (e y)).map .val
  | .unOp op _ x => (evUn op (e x)).map .val
  | .convert s d x => (evConv P s d (e x) h).map .val
  | .makeInterface t x => (evIface P t (e x)).map .val
  | .makeFunc (.func f) first cap => if first.size = 0 then some (.val (.fn f (cap.toList.map e))) else none
  | .makeSlice t l c => evMake P Z t (e l) (e c) h nb
  | .slice t x lo hi mx => evSlice P t (e x) (lo.map e) (hi.map e) (mx.map e) h
  | .fieldAddr t x f => (evFieldAddr P t (e x) f).map .val
  | .field t x f => (evField P t (e x) f).map .val
  | .indexAddr t x i => (evIndexAddr P t (e x) (e i)).map .val
  | .index t x i => (evIndex P t (e x) (e i)).map .val
  | .extract x i => (evExtract (e x) i).map .val
  | .call c => match c.callee with
    | .builtin b => evBuiltin P b c.argTypes.toList (c.args.toList.map e) k nk
    | _ => none
  | _ => none

theorem okay_of {m : Sem Value} {v : AV} (hh : HeapOK G h w) (hm : ∃ u, m.run P w = .ok u w ∧ OccV G v u) : Okay P (do pure (.value (← m))) G h w (.val v) := by
  obtain ⟨u, h1, h2⟩ := hm
  exact okay_val hh (by simp only [Sem.run_bind, h1, Result.andThen_ok, Sem.run_pure]) h2

theorem parts_of {ρ : Operand → Value} {e : Operand → AV} (he : ∀ x, OccV G (e x) (ρ x)) : ∀ l : List (Nat × Operand), Parts G (l.map fun p => (p.1, e p.2)) (l.map fun p => (p.1, ρ p.2))
  | [] => .nil
  | (_, x) :: l => .cons (he x) (parts_of he l)
theorem occVL_of {ρ : Operand → Value} {e : Operand → AV} (he : ∀ x, OccV G (e x) (ρ x)) : ∀ l : List Operand, OccVL G (l.map e) (l.map ρ)
  | [] => .nil
  | x :: l => .cons (he x) (occVL_of he l)
theorem occO_of {ρ : Operand → Value} {e : Operand → AV} (he : ∀ x, OccV G (e x) (ρ x)) : ∀ o : Option Operand, OccO G (o.map e) (o.map ρ)
  | none => .none
  | some x => .some (he x)

theorem builtin_okay {ty : TypeId} {consts : Array Bool} {b : Builtin} {tys : Array TypeId} {xs : List AV} {cs : List Value} {nk : Nat} {r : OR} (hh : HeapOK G h w) (hx : OccVL G xs cs) (e : evBuiltin P b tys.toList xs G.k nk = some r) :
    Okay P (builtin b tys ty consts cs.toArray) G h w r := by
  have harr : ∀ l : List TypeId, tys.toList = l → tys = l.toArray := fun l h => by rw [← h]
  unfold evBuiltin at e
  split at e
  · rename_i t x heq
    obtain ⟨v, hv, rfl⟩ := Option.map_eq_some_iff.1 e
    cases hx with
    | cons h1 ht => cases ht with
      | nil =>
        rw [harr _ heq]
        exact okay_of hh (len_okay h1 hv)
  · rename_i t x heq
    obtain ⟨v, hv, rfl⟩ := Option.map_eq_some_iff.1 e
    cases hx with
    | cons h1 ht => cases ht with
      | nil =>
        rw [harr _ heq]
        exact okay_of hh (cap_okay h1 hv)
  · rename_i t tx s x heq
    split at e
    · rename_i hz
      cases hx with
      | cons h1 ht => cases ht with
        | cons h2 ht => cases ht with
          | nil =>
            rw [harr _ heq]
            exact app_okay hh (ezero_spec hz) h1 h2 e
    · cases e
  · obtain ⟨v, hv, rfl⟩ := Option.map_eq_some_iff.1 e
    unfold evMM at hv
    split at hv
    · split at hv
      · rename_i hk
        subst hk
        cases hv
        cases hx with
        | cons h1 ht => cases ht with
          | cons h2 ht => cases ht with
            | nil =>
              rw [occV_int h1, occV_int h2]
              exact okay_of hh ⟨_, by simp [Builtin.min_, Builtin.min2]; rfl, occV_of_int _ _⟩
      · cases hv
    · cases hv
  · obtain ⟨v, hv, rfl⟩ := Option.map_eq_some_iff.1 e
    unfold evMM at hv
    split at hv
    · split at hv
      · rename_i hk
        subst hk
        cases hv
        cases hx with
        | cons h1 ht => cases ht with
          | cons h2 ht => cases ht with
            | nil =>
              rw [occV_int h1, occV_int h2]
              exact okay_of hh ⟨_, by simp [Builtin.max_, Builtin.max2]; rfl, occV_of_int _ _⟩
      · cases hv
    · cases hv
  · cases e

theorem op_okay {Z : Zeros P} {o : Oper} {ρ : Operand → Value} {e : Operand → AV} {nb nk : Nat} {r : OR} (hh : HeapOK G h w) (he : ∀ x, OccV G (e x) (ρ x)) (hr : evOp P Z o.op e h G.k nb nk = some r) : Okay P (execOp ρ o) G h w r := by
  unfold execOp
  generalize o.op = op at *
  cases op <;> simp only [evOp] at hr <;> try (cases hr; done)
  case move x =>
    cases hr
    exact okay_val hh (by simp) (he x)
  case assign x =>
    cases hr
    exact okay_val hh (by simp) (he x)
  case pick c a b =>
    obtain ⟨v, hv, rfl⟩ := Option.map_eq_some_iff.1 hr
    obtain ⟨t, h1, h2⟩ := pick_okay (he c) (he a) (he b) hv
    exact okay_val hh (by simp [h1, asBool]) h2
  case alloc t =>
    obtain ⟨z, hz, hr⟩ := Option.bind_eq_some_iff.1 hr
    obtain ⟨i, c, hi, hiz, hzc, _⟩ := Z.ok t z hz
    exact new_okay (t := t) hh hr (hzc G) (by simp [Instr.alloc, zeroValue, typeInfo, hi, hiz, newVar, newRow])
  case box t x => exact new_okay (t := t) hh hr (he x) (by simp [Instr.box, newVar, newRow])
  case build t ps =>
    obtain ⟨v, hv, rfl⟩ := Option.map_eq_some_iff.1 hr
    have hp := parts_of he ps.toList
    have h2 : (ps.map fun (i, x) => (i, ρ x)).toList = ps.toList.map fun p => (p.1, ρ p.2) := by simp
    exact okay_of hh (build_okay (by rw [h2]; exact hp) hv)
  case buildSlice t n ps =>
    split at hr
    · rename_i hz
      obtain ⟨v, hv, rfl⟩ := Option.map_eq_some_iff.1 hr
      have hp := parts_of he ps.toList
      have h2 : (ps.map fun (i, x) => (i, ρ x)).toList = ps.toList.map fun p => (p.1, ρ p.2) := by simp
      exact buildSlice_okay hh (ezero_spec hz) (by rw [h2]; exact hp) hv
    · cases hr
  case load t a =>
    obtain ⟨v, hv, rfl⟩ := Option.map_eq_some_iff.1 hr
    exact load_okay hh (he a) hv
  case store t a x => exact store_okay hh (he a) (he x) hr
  case nilCheck x =>
    obtain ⟨v, hv, rfl⟩ := Option.map_eq_some_iff.1 hr
    have hx := he x
    generalize e x = y at hv hx
    dsimp only
    generalize ρ x = c at hx ⊢
    unfold evNil at hv
    split at hv <;> cases hv
    · cases occV_leaf hx rfl rfl with
      | ptr hmu => exact okay_val (v := _) hh rfl hx
    · cases occV_leaf hx rfl rfl with
      | eptr hmu => exact okay_val (v := _) hh rfl hx
    · cases occV_leaf hx rfl rfl with
      | kp h1 h2 => exact okay_val (v := _) hh rfl hx
    · cases occV_leaf hx rfl rfl with
      | fn h1 => exact okay_val (v := _) hh rfl hx
  case binOp op t x y yt =>
    obtain ⟨v, hv, rfl⟩ := Option.map_eq_some_iff.1 hr
    exact okay_of hh (bin_okay (he x) (he y) hv)
  case unOp op t x =>
    obtain ⟨v, hv, rfl⟩ := Option.map_eq_some_iff.1 hr
    exact okay_of hh (un_okay (he x) hv)
  case convert s d x =>
    obtain ⟨v, hv, rfl⟩ := Option.map_eq_some_iff.1 hr
    exact okay_of hh (conv_okay hh (he x) hv)
  case makeInterface t x =>
    obtain ⟨v, hv, rfl⟩ := Option.map_eq_some_iff.1 hr
    exact okay_of hh (iface_okay (he x) hv)
  case makeFunc fn first cap =>
    cases fn <;> simp only at hr <;> try (cases hr; done)
    split at hr
    · rename_i f hf
      cases hr
      have hc := occVL_of he cap.toList
      have h0 : first = #[] := Array.eq_empty_of_size_eq_zero hf
      subst h0
      refine okay_val (v := .func (.func f) #[] (cap.map ρ)) hh (by simp [Instr.makeFunc]) (.one rfl ?_)
      have := OccA.fn (f := f) hc
      have h3 : (cap.toList.map ρ).toArray = cap.map ρ := by
        apply Array.ext'
        simp
      rwa [h3] at this
    · cases hr
  case makeSlice t l c => exact make_okay hh (he l) (he c) hr
  case slice t x lo hi mx => exact slice_okay hh (he x) (occO_of he lo) (occO_of he hi) (occO_of he mx) hr
  case fieldAddr t x f =>
    obtain ⟨v, hv, rfl⟩ := Option.map_eq_some_iff.1 hr
    exact okay_of hh (fieldAddr_okay (he x) hv)
  case field t x f =>
    obtain ⟨v, hv, rfl⟩ := Option.map_eq_some_iff.1 hr
    exact okay_of hh (field_okay (he x) hv)
  case indexAddr t x i =>
    obtain ⟨v, hv, rfl⟩ := Option.map_eq_some_iff.1 hr
    exact okay_of hh (indexAddr_okay (he x) (he i) hv)
  case index t x i =>
    obtain ⟨v, hv, rfl⟩ := Option.map_eq_some_iff.1 hr
    exact okay_of hh (index_okay (he x) (he i) hv)
  case extract x i =>
    obtain ⟨v, hv, rfl⟩ := Option.map_eq_some_iff.1 hr
    exact okay_of hh (extract_okay (he x) hv)
  case call c =>
    split at hr
    · rename_i b hb
      have hx := occVL_of he c.args.toList
      have := builtin_okay (w := w) (ty := o.type) (consts := c.args.map fun | .const _ => true | _ => false) (tys := c.argTypes) hh hx hr
      obtain ⟨nx, w', G', v, h1, h2⟩ := this
      refine ⟨nx, w', G', v, ?_, h2⟩
      simp only [resolve, hb, Sem.run_bind, Sem.run_pure, Result.andThen_ok, invoke]
      rw [← h1]
      congr 2
      apply Array.ext'
      simp
    · cases hr
end
end Go.Am
