/- The abstract machine, part 13: a region run by computing, with answers given for calls and for operations whose conditions are shown elsewhere. -/
import Derived.Test.YtbhgeilmhknnaaaGreatDoorAmCode
import Derived.Test.YtbhgeilmhknnaaaGreatDoorAmRow
namespace Go.Am

inductive Orc where
  | vf (r : AV)
  | call (r : AV) (m : List Nat) (E E' : List Box) (mt : List Nat) (T T' : List (Option Nat))
  | op (r : OR)
  | row (nb : Nat) (r : OR)
inductive Lg where
  | vf (f : FuncId) (args : List AV)
  | call (f : FuncId) (args : List AV) (mh : List (Option Box)) (mk : List (Option (Option Nat)))
  | op (x : Option OR)
/-- What an operation looks at, and what it leaves. -/
structure Ev where
  rt : List Nat
  rb : List Nat
  rk : List Nat
  dst : Option Nat
  v : AV
  wm : List Nat
  wE : List Box
  wt : List Nat
  wT : List (Option Nat)
def Ev.app (e : Ev) (s : AS) : AS := { s with h := setAll s.h e.wm e.wE, k := setAll s.k e.wt e.wT }.put e.dst e.v
/-- A value as data, where it is. -/
def AV.dat (x : AV) : AV :=
  match x.toD with
  | some y => .d y
  | none => x
def tmpOf : Operand → List Nat
  | .tmp i => [i]
  | _ => []
def guardT (ops : List Oper) : Option (Nat × Bool) → List Nat
  | none => []
  | some (j, _) => ((ops[j]?).bind (·.dst)).toList
def looks (ops : List Oper) (o : Oper) : List Nat := guardT ops o.guard ++ (o.op.operands.toList.map tmpOf).flatten
def boxIn : AV → List Nat
  | .ptr b _ | .eptr b _ _ | .msl b _ => [b]
  | _ => []
def tokIn : AV → List Nat
  | .own _ t => [t]
  | _ => []
/-- Operations that look at the boxes that their operands name. -/
def hOp : Op → Bool
  | .load _ _ | .store _ _ _ | .convert _ _ _ | .slice _ _ _ _ _ => true
  | _ => false
def evOf (ops : List Oper) (o : Oper) (nb nk : Nat) (s : AS) (r : OR) : Ev :=
  { rt := looks ops o
    rb := List.replicate (boxesOf o.op) nb ++ (bif hOp o.op then (o.op.operands.toList.map fun x => boxIn (s.ev x)).flatten else [])
    rk := List.replicate (toksOf o.op) nk ++ (o.op.operands.toList.map fun x => tokIn (s.ev x)).flatten
    dst := o.dst
    v := r.v
    wm := match r with | .box b _ _ => [b] | _ => []
    wE := match r with | .box _ x _ => [x] | _ => []
    wt := match r with | .tok t _ _ => [t] | _ => []
    wT := match r with | .tok _ n _ => [some n] | _ => [] }

def stepX (P : Program) (Z : Zeros P) (ops : List Oper) (o : Oper) (nb nk : Nat) (s : AS) (orc : Option Orc) : Option (Option Lg × Ev) :=
  match guardOf ops s o.guard with
  | none => none
  | some false => match orc with
    | none => some (none, ⟨looks ops o, [], [], o.dst, .tup [], [], [], [], []⟩)
    | some _ => none
  | some true =>
    match callOf s o.op with
    | some (f, args) => match orc with
      | some (.vf r) => some (some (.vf f (args.map AV.dat)), ⟨looks ops o, [], [], o.dst, r, [], [], [], []⟩)
      | some (.call r m _ E' mt _ T') => some (some (.call f args (m.map (s.h[·]?)) (mt.map (s.k[·]?))), ⟨looks ops o, m, mt, o.dst, r, m, E', mt, T'⟩)
      | _ => none
    | none => match orc with
      | some (.op r) => some (some (.op (evOp P Z o.op s.ev s.h s.k nb nk)), evOf ops o nb nk s r)
      | some (.row b r) => some (some (.op (evRow P o.op s.ev s.h b)), { evOf ops o nb nk s r with rb := b :: (evOf ops o nb nk s r).rb })
      | none => match evOp P Z o.op s.ev s.h s.k nb nk with
        | some r => some (none, evOf ops o nb nk s r)
        | none => none
      | _ => none
def runX (P : Program) (Z : Zeros P) (ops : List Oper) : List Oper → Nat → Nat → Nat → AS → List (Nat × Orc) → Option (List Lg × List Ev × AS)
  | [], _, _, _, s, orcs => match orcs with
    | [] => some ([], [], s)
    | _ => none
  | o :: rest, j, nb, nk, s, orcs =>
    match (match orcs with
      | (i, _) :: _ => i == j
      | [] => false) with
    | true => match orcs with
      | (_, x) :: os => match stepX P Z ops o nb nk s (some x) with
        | some (some lg, ev) => match runX P Z ops rest (j + 1) (nb + boxesOf o.op) (nk + toksOf o.op) (ev.app s) os with
          | some (lgs, evs, s') => some (lg :: lgs, ev :: evs, s')
          | none => none
        | _ => none
      | [] => none
    | false => match stepX P Z ops o nb nk s none with
      | some (none, ev) => match runX P Z ops rest (j + 1) (nb + boxesOf o.op) (nk + toksOf o.op) (ev.app s) orcs with
        | some (lgs, evs, s') => some (lgs, ev :: evs, s')
        | none => none
      | _ => none

def Good1 (P : Program) : Orc → Lg → Prop
  | .vf r, .vf f args => VF P f args r ∧ AV.clL args = true ∧ r.cl = true
  | .call r m E E' mt T T', .call f args mh mk => mh = E.map some ∧ mk = T.map some ∧ CallL P f args m E mt T r E' T'
  | .op r, .op x => x = some r
  | .row _ r, .op x => x = some r
  | _, _ => False
def Good (P : Program) : List (Nat × Orc) → List Lg → Prop
  | [], [] => True
  | (_, o) :: os, l :: ls => Good1 P o l ∧ Good P os ls
  | _, _ => False

/-- An event is right at a state: wherever what it looks at is the same. -/
def Agree (e : Ev) (s s' : AS) : Prop := s'.n = s.n ∧ (∀ i ∈ e.rt, s'.t i = s.t i) ∧ (∀ b ∈ e.rb, s'.h[b]? = s.h[b]?) ∧ ∀ t ∈ e.rk, s'.k[t]? = s.k[t]?
theorem Agree.refl (e : Ev) (s : AS) : Agree e s s := ⟨rfl, fun _ _ => rfl, fun _ _ => rfl, fun _ _ => rfl⟩
def Snd (P : Program) (B : Base) (ops : List Oper) (o : Oper) (e : Ev) (s : AS) : Prop :=
  ∀ (s' : AS) (a : Act) (w : World) (K : Act → World → Prop) (Q : Exit → Act → World → Prop), Agree e s s' → Inv B s' a w → (∀ a' w', Inv B (e.app s') a' w' → K a' w') →
    if Region.wanted o (yielded ops.toArray a.tmps) then o.wp P a w K Q else K (a.put o.dst undef) w

theorem fit_dat : ∀ l : List AV, Fit l (l.map AV.dat)
  | [] => .nil
  | x :: l => by
    simp only [List.map_cons]
    unfold AV.dat
    cases h : x.toD with
    | none => exact .same (fit_dat l)
    | some y => exact .data h (fit_dat l)
theorem ev_agree {s s' : AS} {x : Operand} (h : ∀ i ∈ tmpOf x, s'.t i = s.t i) : s'.ev x = s.ev x := by
  cases x with
  | tmp i => exact h i (by simp [tmpOf])
  | _ => rfl
theorem guard_agree {ops : List Oper} {s s' : AS} (hn : s'.n = s.n) {g : Option (Nat × Bool)} (h : ∀ i ∈ guardT ops g, s'.t i = s.t i) : guardOf ops s' g = guardOf ops s g := by
  unfold guardOf
  cases g with
  | none => rfl
  | some p =>
    obtain ⟨j, want⟩ := p
    simp only
    cases hd : (ops[j]?).bind (·.dst) with
    | none => rfl
    | some d =>
      have := h d (by simp [guardT, hd])
      simp only [this, hn]
theorem callOf_agree {s s' : AS} {o : Op} (h : ∀ x ∈ o.operands.toList, s'.ev x = s.ev x) : callOf s' o = callOf s o := by
  unfold callOf
  cases o with
  | call c =>
    obtain ⟨callee, args, tys⟩ := c
    simp only [Op.operands, Call.operands] at h
    cases callee with
    | value x =>
      have hx : s'.ev x = s.ev x := h x (by simp)
      have ha : args.toList.map s'.ev = args.toList.map s.ev := List.map_congr_left fun y hy => h y (by simp at hy ⊢; exact .inr hy)
      simp only [hx, ha]
    | _ => rfl
  | _ => rfl

theorem evLoad_agree {P : Program} {t : TypeId} {x : AV} {h h' : List Box} (e : ∀ b ∈ boxIn x, h'[b]? = h[b]?) : evLoad P t x h' = evLoad P t x h := by
  unfold evLoad
  cases x with
  | ptr b o => have := e b (by simp [boxIn]); simp only [this]
  | eptr b i sz => have := e b (by simp [boxIn]); simp only [this]
  | _ => rfl
theorem evStore_agree {P : Program} {t : TypeId} {x y : AV} {h h' : List Box} (e : ∀ b ∈ boxIn x, h'[b]? = h[b]?) : evStore P t x y h' = evStore P t x y h := by
  unfold evStore
  cases x with
  | ptr b o => have := e b (by simp [boxIn]); simp only [this]
  | eptr b i sz => have := e b (by simp [boxIn]); simp only [this]
  | _ => rfl
theorem evConv_agree {P : Program} {t u : TypeId} {x : AV} {h h' : List Box} (e : ∀ b ∈ boxIn x, h'[b]? = h[b]?) : evConv P t u x h' = evConv P t u x h := by
  unfold evConv
  cases x with
  | msl b o => have := e b (by simp [boxIn]); simp only [this]
  | _ => rfl
theorem evSlice_agree {P : Program} {t : TypeId} {x : AV} {a b c : Option AV} {h h' : List Box} (e : ∀ b ∈ boxIn x, h'[b]? = h[b]?) : evSlice P t x a b c h' = evSlice P t x a b c h := by
  unfold evSlice
  cases x with
  | ptr b o => have := e b (by simp [boxIn]); simp only [this]
  | d x => cases x <;> rfl
  | _ => rfl
theorem evNew_agree {nb : Nat} {v : AV} {h h' : List Box} (e : h'[nb]? = h[nb]?) : evNew nb v h' = evNew nb v h := by
  unfold evNew
  simp only [e]
theorem evMake_agree {P : Program} {Z : Zeros P} {t : TypeId} {a b : AV} {nb : Nat} {h h' : List Box} (e : h'[nb]? = h[nb]?) : evMake P Z t a b h' nb = evMake P Z t a b h nb := by
  unfold evMake
  simp only [e]
theorem evApp_agree {P : Program} {t tx : TypeId} {s x : AV} {k k' : List (Option Nat)} {nk : Nat} (e0 : k'[nk]? = k[nk]?) (e : ∀ t ∈ tokIn s, k'[t]? = k[t]?) : evApp P t tx s x k' nk = evApp P t tx s x k nk := by
  unfold evApp
  cases s with
  | own l u => have := e u (by simp [tokIn]); simp only [this]
  | full l => simp only [e0]
  | _ => rfl
theorem evBuiltin_agree {P : Program} {b : Builtin} {tys : List TypeId} {args : List AV} {k k' : List (Option Nat)} {nk : Nat} (e0 : b = .append → k'[nk]? = k[nk]?) (e : ∀ x ∈ args, ∀ t ∈ tokIn x, k'[t]? = k[t]?) :
    evBuiltin P b tys args k' nk = evBuiltin P b tys args k nk := by
  unfold evBuiltin
  split
  · rfl
  · rfl
  · rename_i t tx s x
    rw [evApp_agree (e0 rfl) (e s (by simp))]
  · rfl
  · rfl
  · rfl
theorem evOp_agree {P : Program} {Z : Zeros P} {o : Op} {e e' : Operand → AV} {h h' : List Box} {k k' : List (Option Nat)} {nb nk : Nat} (he : ∀ x ∈ o.operands.toList, e' x = e x)
    (hb : boxesOf o ≠ 0 → h'[nb]? = h[nb]?) (hk : toksOf o ≠ 0 → k'[nk]? = k[nk]?) (hx : hOp o = true → ∀ x ∈ o.operands.toList, ∀ b ∈ boxIn (e x), h'[b]? = h[b]?) (kx : ∀ x ∈ o.operands.toList, ∀ t ∈ tokIn (e x), k'[t]? = k[t]?) :
    evOp P Z o e' h' k' nb nk = evOp P Z o e h k nb nk := by
  have pairs : ∀ ps : List (Nat × Operand), (∀ p ∈ ps, e' p.2 = e p.2) → ps.map (fun p => (p.1, e' p.2)) = ps.map (fun p => (p.1, e p.2)) := fun ps hp =>
    List.map_congr_left fun p hm => by rw [hp p hm]
  have opt : ∀ x : Option Operand, (∀ y, x = some y → e' y = e y) → x.map e' = x.map e := fun x hx => by
    cases x with
    | none => rfl
    | some y => simp [hx y rfl]
  cases o <;> simp only [Op.operands] at he hx kx <;> simp only [evOp]
  case move x => rw [he x (by simp)]
  case assign x => rw [he x (by simp)]
  case pick c a b => rw [he c (by simp), he a (by simp), he b (by simp)]
  case alloc t => rw [show (fun z => evNew nb z h') = fun z => evNew nb z h from funext fun z => evNew_agree (hb (by simp [boxesOf]))]
  case box t x => rw [he x (by simp), evNew_agree (hb (by simp [boxesOf]))]
  case build t ps => rw [pairs ps.toList fun p hp => he p.2 (by simp; exact ⟨p.1, by simpa using hp⟩)]
  case buildSlice t n ps => rw [pairs ps.toList fun p hp => he p.2 (by simp; exact ⟨p.1, by simpa using hp⟩)]
  case load t a => rw [he a (by simp), evLoad_agree (hx rfl a (by simp))]
  case store t a x => rw [he a (by simp), he x (by simp), evStore_agree (hx rfl a (by simp))]
  case nilCheck x => rw [he x (by simp)]
  case binOp op t x y u => rw [he x (by simp), he y (by simp)]
  case unOp op t x => rw [he x (by simp)]
  case convert s d x => rw [he x (by simp), evConv_agree (hx rfl x (by simp))]
  case makeInterface t x => rw [he x (by simp)]
  case makeFunc fn first cap =>
    cases fn with
    | func f =>
      have : cap.toList.map e' = cap.toList.map e := List.map_congr_left fun x hm => he x (by simp; exact .inr (by simpa using hm))
      simp only [this]
    | _ => rfl
  case makeSlice t l c => rw [he l (by simp), he c (by simp), evMake_agree (hb (by simp [boxesOf]))]
  case slice t x lo hi mx =>
    rw [he x (by simp), opt lo (fun y hy => he y (by simp [hy])), opt hi (fun y hy => he y (by simp [hy])), opt mx (fun y hy => he y (by simp [hy])), evSlice_agree (hx rfl x (by simp))]
  case fieldAddr t x f => rw [he x (by simp)]
  case field t x f => rw [he x (by simp)]
  case indexAddr t x i => rw [he x (by simp), he i (by simp)]
  case index t x i => rw [he x (by simp), he i (by simp)]
  case extract x i => rw [he x (by simp)]
  case call c =>
    obtain ⟨callee, args, tys⟩ := c
    cases callee with
    | builtin b =>
      simp only [Call.operands] at he kx ⊢
      have ha : args.toList.map e' = args.toList.map e := List.map_congr_left fun y hy => he y (by simpa using hy)
      simp only [ha]
      refine evBuiltin_agree (fun hbb => hk ?_) fun x hm => ?_
      · subst hbb
        simp [toksOf]
      · obtain ⟨y, hy, rfl⟩ := List.mem_map.1 hm
        exact kx y (by simpa using hy)
    | _ => rfl
end Go.Am
