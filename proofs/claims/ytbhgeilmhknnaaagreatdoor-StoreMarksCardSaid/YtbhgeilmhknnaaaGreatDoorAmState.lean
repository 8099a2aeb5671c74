/- The abstract machine, part 2: values with addresses, boxes, the right to append; how a state lies in the world. -/
import Derived.Test.YtbhgeilmhknnaaaGreatDoorAmData
namespace Go.Am

inductive AV where
  | any
  | d (x : D)
  | full (l : List D)
  | own (l : List D) (t : Nat)
  | msl (b n : Nat)
  | ptr (b o : Nat)
  | eptr (b i sz : Nat)
  | kp (x : D)
  | kpp (b o : Nat)
  | ptrs (l : List (Nat × Nat))
  | agg (l : List AV)
  | tup (l : List AV)
  | fn (f : FuncId) (c : List AV)
  | iface (t : TypeId) (x : AV)
  | con (v : Value)

mutual
def AV.size : AV → Nat
  | .d x => x.size
  | .agg l => AV.sizeL l
  | .any | .tup _ => 0
  | .full _ | .own _ _ | .msl _ _ | .ptr _ _ | .eptr _ _ _ | .kp _ | .kpp _ _ | .ptrs _ | .fn _ _ | .iface _ _ | .con _ => 1
def AV.sizeL : List AV → Nat
  | [] => 0
  | x :: l => x.size + AV.sizeL l
end
def AV.isAgg : AV → Bool
  | .agg _ => true
  | .d x => x.isAgg
  | _ => false
/-- A value of cells: no tuple, and something is known of it. -/
def AV.solid : AV → Bool
  | .any | .tup _ => false
  | _ => true

inductive Box where
  | hole
  | var (v : AV)
  | row (l : List D) (sz : Nat)
  | fz (x : D)

structure Tk where
  base : Option (Nat × Nat)
  cap : Nat
  sz : Nat

structure Gh where
  K : Kn
  mu : List (Option Nat)
  tk : List Tk
  k : List (Option Nat)

/-- What the library's variables hold from the start on. -/
def GKl : List (Nat × Nat × Value) := [(0, 0, .iface 340 (.agg #[.pointer (some ⟨2, 224, none⟩)]))]
/-- It is known what the library's variables hold. -/
def KOK (G : Gh) : Prop := ∀ q ∈ GKl, G.K q.1 q.2.1 = some q.2.2

/-- What a token's slice is, when it holds all of it. -/
def Tk.is (K : Kn) (tk : Tk) (l : List D) (c : Value) : Prop :=
  match tk.base with
  | none => l = [] ∧ c = .slice none 0 0
  | some (b, o) => c = .slice (some ⟨b, o, none⟩) l.length tk.cap ∧ OccR K l b o tk.sz

mutual
inductive OccA (G : Gh) : AV → List Value → Prop where
  | d {x : D} {cs : List Value} (h : Occ G.K x cs) : OccA G (.d x) cs
  | fulln : OccA G (.full []) [.slice none 0 0]
  | full {l : List D} {b o sz : Nat} (hsz : 0 < sz) (h : OccR G.K l b o sz) : OccA G (.full l) [.slice (some ⟨b, o, none⟩) l.length l.length]
  | own {l : List D} {t n : Nat} {tk : Tk} {c : Value} (hn : G.k[t]? = some (some n)) (hl : l.length ≤ n) (ht : G.tk[t]? = some tk) (hi : l.length = n → tk.is G.K l c) (h : Occ G.K (.sl l) [c]) : OccA G (.own l t) [c]
  | msl {b n c blk : Nat} (h : G.mu[b]? = some (some blk)) (hc : n ≤ c) : OccA G (.msl b n) [.slice (some ⟨blk, 0, none⟩) n c]
  | ptr {b o blk : Nat} (h : G.mu[b]? = some (some blk)) : OccA G (.ptr b o) [.pointer (some ⟨blk, o, none⟩)]
  | eptr {b i sz blk : Nat} (h : G.mu[b]? = some (some blk)) : OccA G (.eptr b i sz) [.pointer (some ⟨blk, i * sz, none⟩)]
  | kp {x : D} {b o : Nat} {cs : List Value} (h : Occ G.K x cs) (hk : ∀ j v, cs[j]? = some v → G.K b (o + j) = some v) : OccA G (.kp x) [.pointer (some ⟨b, o, none⟩)]
  | kpp {b o blk c p : Nat} (h : G.mu[b]? = some (some blk)) (hk : G.K c p = some (.pointer (some ⟨blk, o, none⟩))) : OccA G (.kpp b o) [.pointer (some ⟨c, p, none⟩)]
  | ptrs {l : List (Nat × Nat)} {b o : Nat} (h : ∀ (j : Nat) (p : Nat × Nat), l[j]? = some p → ∃ blk, G.mu[p.1]? = some (some blk) ∧ G.K b (o + j) = some (.pointer (some ⟨blk, p.2, none⟩))) : OccA G (.ptrs l) [.slice (some ⟨b, o, none⟩) l.length l.length]
  | agg {l : List AV} {cs : List Value} (h : OccAL G l cs) : OccA G (.agg l) cs
  | fn {f : FuncId} {c : List AV} {vs : List Value} (h : OccVL G c vs) : OccA G (.fn f c) [.func (.func f) #[] vs.toArray]
  | iface {t : TypeId} {x : AV} {v : Value} (h : OccV G x v) : OccA G (.iface t x) [.iface t v]
  | con {v : Value} (h : v.oneCell' = true) : OccA G (.con v) [v]
inductive OccAL (G : Gh) : List AV → List Value → Prop where
  | nil : OccAL G [] []
  | cons {x : AV} {l : List AV} {cs ds : List Value} (h : OccA G x cs) (t : OccAL G l ds) : OccAL G (x :: l) (cs ++ ds)
/-- A value in a slot. -/
inductive OccV (G : Gh) : AV → Value → Prop where
  | any (c : Value) : OccV G .any c
  | one {v : AV} {c : Value} (ha : v.isAgg = false) (h : OccA G v [c]) : OccV G v c
  | agg {v : AV} {cs : List Value} (ha : v.isAgg = true) (h : OccA G v cs) : OccV G v (.agg cs.toArray)
  | tup {l : List AV} {vs : List Value} (h : OccVL G l vs) : OccV G (.tup l) (.tuple vs.toArray)
inductive OccVL (G : Gh) : List AV → List Value → Prop where
  | nil : OccVL G [] []
  | cons {x : AV} {l : List AV} {v : Value} {vs : List Value} (h : OccV G x v) (t : OccVL G l vs) : OccVL G (x :: l) (v :: vs)
end

/-- What is known goes on being known. -/
structure Gh.le (G G' : Gh) : Prop where
  K : ∀ b o v, G.K b o = some v → G'.K b o = some v
  mu : ∀ (b blk : Nat), G.mu[b]? = some (some blk) → G'.mu[b]? = some (some blk)
  k : ∀ (t n : Nat), G.k[t]? = some (some n) → ∃ n', G'.k[t]? = some (some n') ∧ n ≤ n' ∧ (n = n' → G'.tk[t]? = G.tk[t]?) ∧ ∀ tk, G.tk[t]? = some tk → ∃ tk', G'.tk[t]? = some tk'
theorem KOK.le {G G' : Gh} (h : KOK G) (g : G.le G') : KOK G' := fun q hq => g.K _ _ _ (h q hq)
theorem Gh.le.refl (G : Gh) : G.le G := ⟨fun _ _ _ h => h, fun _ _ h => h, fun _ n h => ⟨n, h, Nat.le_refl _, fun _ => rfl, fun tk h => ⟨tk, h⟩⟩⟩
theorem Gh.le.trans {A B C : Gh} (h : A.le B) (g : B.le C) : A.le C := by
  refine ⟨fun b o v e => g.K _ _ _ (h.K _ _ _ e), fun b blk e => g.mu _ _ (h.mu _ _ e), fun t n e => ?_⟩
  obtain ⟨n1, e1, l1, s1, x1⟩ := h.k t n e
  obtain ⟨n2, e2, l2, s2, x2⟩ := g.k t n1 e1
  refine ⟨n2, e2, by omega, fun hn => ?_, fun tk ht => ?_⟩
  · rw [s2 (by omega), s1 (by omega)]
  · obtain ⟨tk1, h1⟩ := x1 tk ht
    exact x2 tk1 h1

theorem Tk.is_mono {K K' : Kn} (hk : ∀ b o v, K b o = some v → K' b o = some v) {tk : Tk} {l : List D} {c : Value} (h : tk.is K l c) : tk.is K' l c := by
  unfold Tk.is at *
  split
  · rename_i he
    simpa [he] using h
  · rename_i b o he
    simp only [he] at h
    exact ⟨h.1, occR_mono hk h.2⟩

theorem own_le {G G' : Gh} (g : G.le G') {l : List D} {t n : Nat} {tk : Tk} {c : Value} (hn : G.k[t]? = some (some n)) (hl : l.length ≤ n) (ht : G.tk[t]? = some tk) (hi : l.length = n → tk.is G.K l c) (h : Occ G.K (.sl l) [c]) : OccA G' (.own l t) [c] := by
  obtain ⟨n', e1, e2, e3, e4⟩ := g.k t n hn
  obtain ⟨tk', ht'⟩ := e4 tk ht
  refine .own e1 (by omega) ht' (fun hl' => ?_) (occ_mono g.K h)
  have hnn : n = n' := by omega
  have : tk' = tk := by
    have := e3 hnn
    rw [ht, ht'] at this
    exact Option.some.inj this
  subst this
  exact Tk.is_mono g.K (hi (by omega))
theorem occA_le {G G' : Gh} (g : G.le G') {v : AV} {cs : List Value} (h : OccA G v cs) : OccA G' v cs :=
  OccA.rec (motive_1 := fun v cs _ => OccA G' v cs) (motive_2 := fun v cs _ => OccAL G' v cs) (motive_3 := fun v c _ => OccV G' v c) (motive_4 := fun v c _ => OccVL G' v c)
    (fun h => .d (occ_mono g.K h)) .fulln (fun hsz h => .full hsz (occR_mono g.K h)) (fun hn hl ht hi h => own_le g hn hl ht hi h)
    (fun h hc => .msl (g.mu _ _ h) hc) (fun h => .ptr (g.mu _ _ h)) (fun h => .eptr (g.mu _ _ h))
    (fun h hk => .kp (occ_mono g.K h) (fun j v hj => g.K _ _ _ (hk j v hj))) (fun h hk => .kpp (g.mu _ _ h) (g.K _ _ _ hk)) (fun h => .ptrs fun j p hj => let ⟨blk, h1, h2⟩ := h j p hj; ⟨blk, g.mu _ _ h1, g.K _ _ _ h2⟩)
    (fun _ h => .agg h) (fun _ h => .fn h) (fun _ h => .iface h) (fun h => .con h) .nil (fun _ _ h t => .cons h t)
    (fun c => .any c) (fun ha _ h => .one ha h) (fun ha _ h => .agg ha h) (fun _ h => .tup h) .nil (fun _ _ h t => .cons h t) h
theorem occV_le {G G' : Gh} (g : G.le G') {v : AV} {c : Value} (h : OccV G v c) : OccV G' v c :=
  OccV.rec (motive_1 := fun v cs _ => OccA G' v cs) (motive_2 := fun v cs _ => OccAL G' v cs) (motive_3 := fun v c _ => OccV G' v c) (motive_4 := fun v c _ => OccVL G' v c)
    (fun h => .d (occ_mono g.K h)) .fulln (fun hsz h => .full hsz (occR_mono g.K h)) (fun hn hl ht hi h => own_le g hn hl ht hi h)
    (fun h hc => .msl (g.mu _ _ h) hc) (fun h => .ptr (g.mu _ _ h)) (fun h => .eptr (g.mu _ _ h))
    (fun h hk => .kp (occ_mono g.K h) (fun j v hj => g.K _ _ _ (hk j v hj))) (fun h hk => .kpp (g.mu _ _ h) (g.K _ _ _ hk)) (fun h => .ptrs fun j p hj => let ⟨blk, h1, h2⟩ := h j p hj; ⟨blk, g.mu _ _ h1, g.K _ _ _ h2⟩)
    (fun _ h => .agg h) (fun _ h => .fn h) (fun _ h => .iface h) (fun h => .con h) .nil (fun _ _ h t => .cons h t)
    (fun c => .any c) (fun ha _ h => .one ha h) (fun ha _ h => .agg ha h) (fun _ h => .tup h) .nil (fun _ _ h t => .cons h t) h
theorem occVL_le {G G' : Gh} (g : G.le G') : ∀ {v : List AV} {c : List Value}, OccVL G v c → OccVL G' v c
  | _, _, .nil => .nil
  | _, _, .cons h t => .cons (occV_le g h) (occVL_le g t)

theorem occA_size {G : Gh} {v : AV} {cs : List Value} (h : OccA G v cs) : cs.length = v.size ∧ ∀ c ∈ cs, c.oneCell' = true :=
  OccA.rec (motive_1 := fun v cs _ => cs.length = v.size ∧ ∀ c ∈ cs, c.oneCell' = true) (motive_2 := fun v cs _ => cs.length = AV.sizeL v ∧ ∀ c ∈ cs, c.oneCell' = true) (motive_3 := fun _ _ _ => True) (motive_4 := fun _ _ _ => True)
    (fun h => occ_size h) ⟨rfl, by simp [Value.oneCell']⟩ (fun _ _ => ⟨rfl, by simp [Value.oneCell']⟩) (fun _ _ _ _ h => ⟨rfl, (occ_size h).2⟩)
    (fun _ _ => ⟨rfl, by simp [Value.oneCell']⟩) (fun _ => ⟨rfl, by simp [Value.oneCell']⟩) (fun _ => ⟨rfl, by simp [Value.oneCell']⟩) (fun _ _ => ⟨rfl, by simp [Value.oneCell']⟩) (fun _ _ => ⟨rfl, by simp [Value.oneCell']⟩) (fun _ => ⟨rfl, by simp [Value.oneCell']⟩)
    (fun _ h => h) (fun _ _ => ⟨rfl, by simp [Value.oneCell']⟩) (fun _ _ => ⟨rfl, by simp [Value.oneCell']⟩) (fun h => ⟨rfl, by simpa using h⟩)
    ⟨rfl, by simp⟩ (fun _ _ h t => ⟨by simp [AV.sizeL, h.1, t.1], fun c hc => by
      rcases List.mem_append.1 hc with hc | hc
      · exact h.2 c hc
      · exact t.2 c hc⟩)
    (fun _ => trivial) (fun _ _ _ => trivial) (fun _ _ _ => trivial) (fun _ _ => trivial) trivial (fun _ _ _ _ => trivial) h

/-- The cells of a slot's value. -/
theorem occV_cells {G : Gh} {v : AV} {c : Value} (h : OccV G v c) (hs : v.solid = true) : OccA G v c.cells.toList := by
  cases h with
  | any => simp [AV.solid] at hs
  | one ha h =>
    have := (occA_size h).2 c (by simp)
    cases c <;> first | exact h | simp [Value.oneCell'] at this
  | agg ha h => simpa [Value.cells] using h
  | tup h => simp [AV.solid] at hs
theorem occV_of {G : Gh} {v : AV} {cs : List Value} (h : OccA G v cs) : (v.isAgg = true → OccV G v (.agg cs.toArray)) ∧ (v.isAgg = false → ∀ c, cs = [c] → OccV G v c) :=
  ⟨fun ha => .agg ha h, fun ha _ hc => .one ha (hc ▸ h)⟩

/-! ### an AV as data -/
mutual
def AV.toD : AV → Option D
  | .d x => some x
  | .full l => some (.sl l)
  | .own l _ => some (.sl l)
  | .agg l => (AV.toDL l).map .agg
  | .any | .msl _ _ | .ptr _ _ | .eptr _ _ _ | .kp _ | .kpp _ _ | .ptrs _ | .tup _ | .fn _ _ | .iface _ _ | .con _ => none
def AV.toDL : List AV → Option (List D)
  | [] => some []
  | x :: l => (AV.toD x).bind fun y => (AV.toDL l).map (y :: ·)
end
mutual
theorem occA_toD {G : Gh} : ∀ (v : AV) {cs : List Value} {x : D}, OccA G v cs → v.toD = some x → Occ G.K x cs
  | .d x, cs, y, h, e => by
    cases h with
    | d h => simp [AV.toD] at e; exact e ▸ h
  | .full l, cs, y, h, e => by
    simp [AV.toD] at e
    subst e
    cases h with
    | fulln => exact .nils
    | full hsz h => exact .sl hsz (Nat.le_refl _) h
  | .own l t, cs, y, h, e => by
    simp [AV.toD] at e
    subst e
    cases h with
    | own _ _ _ _ h => exact h
  | .agg l, cs, y, h, e => by
    simp only [AV.toD] at e
    obtain ⟨m, hm, rfl⟩ := Option.map_eq_some_iff.1 e
    cases h with
    | agg h => exact .agg (occAL_toD l h hm)
  | .any, _, _, _, e => by simp [AV.toD] at e
  | .msl _ _, _, _, _, e => by simp [AV.toD] at e
  | .ptr _ _, _, _, _, e => by simp [AV.toD] at e
  | .eptr _ _ _, _, _, _, e => by simp [AV.toD] at e
  | .kp _, _, _, _, e => by simp [AV.toD] at e
  | .kpp _ _, _, _, _, e => by simp [AV.toD] at e
  | .ptrs _, _, _, _, e => by simp [AV.toD] at e
  | .tup _, _, _, _, e => by simp [AV.toD] at e
  | .fn _ _, _, _, _, e => by simp [AV.toD] at e
  | .iface _ _, _, _, _, e => by simp [AV.toD] at e
  | .con _, _, _, _, e => by simp [AV.toD] at e
theorem occAL_toD {G : Gh} : ∀ (l : List AV) {cs : List Value} {m : List D}, OccAL G l cs → AV.toDL l = some m → OccL G.K m cs
  | [], _, _, .nil, e => by
    simp [AV.toDL] at e
    subst e
    exact .nil
  | x :: l, _, m, .cons h t, e => by
    simp only [AV.toDL] at e
    obtain ⟨y, hy, e⟩ := Option.bind_eq_some_iff.1 e
    obtain ⟨m', hm, rfl⟩ := Option.map_eq_some_iff.1 e
    exact .cons (occA_toD x h hy) (occAL_toD l t hm)
end
mutual
theorem toD_size : ∀ (v : AV) {x : D}, v.toD = some x → x.size = v.size ∧ x.isAgg = v.isAgg
  | .d x, y, e => by simp [AV.toD] at e; subst e; exact ⟨rfl, rfl⟩
  | .full l, y, e => by simp [AV.toD] at e; subst e; exact ⟨rfl, rfl⟩
  | .own l t, y, e => by simp [AV.toD] at e; subst e; exact ⟨rfl, rfl⟩
  | .agg l, y, e => by
    simp only [AV.toD] at e
    obtain ⟨m, hm, rfl⟩ := Option.map_eq_some_iff.1 e
    exact ⟨toDL_size l hm, rfl⟩
  | .any, _, e => by simp [AV.toD] at e
  | .msl _ _, _, e => by simp [AV.toD] at e
  | .ptr _ _, _, e => by simp [AV.toD] at e
  | .eptr _ _ _, _, e => by simp [AV.toD] at e
  | .kp _, _, e => by simp [AV.toD] at e
  | .kpp _ _, _, e => by simp [AV.toD] at e
  | .ptrs _, _, e => by simp [AV.toD] at e
  | .tup _, _, e => by simp [AV.toD] at e
  | .fn _ _, _, e => by simp [AV.toD] at e
  | .iface _ _, _, e => by simp [AV.toD] at e
  | .con _, _, e => by simp [AV.toD] at e
theorem toDL_size : ∀ (l : List AV) {m : List D}, AV.toDL l = some m → D.sizeL m = AV.sizeL l
  | [], m, e => by simp [AV.toDL] at e; subst e; rfl
  | x :: l, m, e => by
    simp only [AV.toDL] at e
    obtain ⟨y, hy, e⟩ := Option.bind_eq_some_iff.1 e
    obtain ⟨m', hm, rfl⟩ := Option.map_eq_some_iff.1 e
    simp [D.sizeL, AV.sizeL, (toD_size x hy).1, toDL_size l hm]
end
theorem occV_toD {G : Gh} {v : AV} {c : Value} {x : D} (h : OccV G v c) (e : v.toD = some x) : Occ G.K x c.cells.toList :=
  occA_toD v (occV_cells h (by cases v <;> first | rfl | simp [AV.toD] at e)) e

/-! ### a part of a value -/
mutual
def AV.at_ : AV → Nat → Nat → Bool → Option AV
  | .d x, off, sz, ag => (x.at_ off sz ag).map .d
  | .agg l, off, sz, ag => if off = 0 ∧ sz = AV.sizeL l ∧ ag = true then some (.agg l) else AV.atL l off sz ag
  | .full l, off, sz, ag => if off = 0 ∧ sz = 1 ∧ ag = false then some (.full l) else none
  | .own l t, off, sz, ag => if off = 0 ∧ sz = 1 ∧ ag = false then some (.own l t) else none
  | .msl b n, off, sz, ag => if off = 0 ∧ sz = 1 ∧ ag = false then some (.msl b n) else none
  | .ptr b o, off, sz, ag => if off = 0 ∧ sz = 1 ∧ ag = false then some (.ptr b o) else none
  | .eptr b o s, off, sz, ag => if off = 0 ∧ sz = 1 ∧ ag = false then some (.eptr b o s) else none
  | .kp x, off, sz, ag => if off = 0 ∧ sz = 1 ∧ ag = false then some (.kp x) else none
  | .kpp b o, off, sz, ag => if off = 0 ∧ sz = 1 ∧ ag = false then some (.kpp b o) else none
  | .ptrs l, off, sz, ag => if off = 0 ∧ sz = 1 ∧ ag = false then some (.ptrs l) else none
  | .fn f c, off, sz, ag => if off = 0 ∧ sz = 1 ∧ ag = false then some (.fn f c) else none
  | .iface t x, off, sz, ag => if off = 0 ∧ sz = 1 ∧ ag = false then some (.iface t x) else none
  | .con v, off, sz, ag => if off = 0 ∧ sz = 1 ∧ ag = false then some (.con v) else none
  | .any, _, _, _ => none
  | .tup _, _, _, _ => none
def AV.atL : List AV → Nat → Nat → Bool → Option AV
  | [], _, _, _ => none
  | x :: l, off, sz, ag => if off < x.size then x.at_ off sz ag else AV.atL l (off - x.size) sz ag
end
theorem at_leaf {G : Gh} {v y : AV} {cs : List Value} {off sz : Nat} {ag : Bool} (h : OccA G v cs) (hs : v.size = 1) (ha : v.isAgg = false)
    (e : (if off = 0 ∧ sz = 1 ∧ ag = false then some v else none) = some y) : OccA G y ((cs.drop off).take sz) ∧ y.size = sz ∧ y.isAgg = ag ∧ off + sz ≤ cs.length := by
  split at e
  · rename_i hc
    obtain ⟨rfl, rfl, rfl⟩ := hc
    cases e
    have := (occA_size h).1
    refine ⟨?_, hs, ha, by omega⟩
    rw [List.drop_zero, List.take_of_length_le (by omega)]
    exact h
  · cases e
mutual
theorem occA_at {G : Gh} : ∀ (x : AV) {cs : List Value} {off sz : Nat} {ag : Bool} {y : AV}, OccA G x cs → x.at_ off sz ag = some y →
    OccA G y ((cs.drop off).take sz) ∧ y.size = sz ∧ y.isAgg = ag ∧ off + sz ≤ cs.length
  | .d x, cs, off, sz, ag, y, h, e => by
    simp only [AV.at_] at e
    obtain ⟨z, hz, rfl⟩ := Option.map_eq_some_iff.1 e
    cases h with
    | d h =>
      obtain ⟨h1, h2, h3, h4⟩ := occ_at x h hz
      exact ⟨.d h1, h2, h3, h4⟩
  | .agg l, cs, off, sz, ag, y, h, e => by
    simp only [AV.at_] at e
    split at e
    · rename_i hc
      obtain ⟨rfl, rfl, rfl⟩ := hc
      cases e
      have hs := (occA_size h).1
      simp only [AV.size] at hs
      refine ⟨?_, rfl, rfl, by omega⟩
      rw [List.drop_zero, ← hs, List.take_length]
      exact h
    · cases h with
      | agg h => exact occAL_at l h e
  | .full l, cs, off, sz, ag, y, h, e => at_leaf h rfl rfl e
  | .own l t, cs, off, sz, ag, y, h, e => at_leaf h rfl rfl e
  | .msl b n, cs, off, sz, ag, y, h, e => at_leaf h rfl rfl e
  | .ptr b o, cs, off, sz, ag, y, h, e => at_leaf h rfl rfl e
  | .eptr b o s, cs, off, sz, ag, y, h, e => at_leaf h rfl rfl e
  | .kp x, cs, off, sz, ag, y, h, e => at_leaf h rfl rfl e
  | .kpp b o, cs, off, sz, ag, y, h, e => at_leaf h rfl rfl e
  | .ptrs l, cs, off, sz, ag, y, h, e => at_leaf h rfl rfl e
  | .fn f c, cs, off, sz, ag, y, h, e => at_leaf h rfl rfl e
  | .iface t x, cs, off, sz, ag, y, h, e => at_leaf h rfl rfl e
  | .con v, cs, off, sz, ag, y, h, e => at_leaf h rfl rfl e
  | .any, _, _, _, _, _, _, e => by simp [AV.at_] at e
  | .tup _, _, _, _, _, _, _, e => by simp [AV.at_] at e
theorem occAL_at {G : Gh} : ∀ (l : List AV) {cs : List Value} {off sz : Nat} {ag : Bool} {y : AV}, OccAL G l cs → AV.atL l off sz ag = some y →
    OccA G y ((cs.drop off).take sz) ∧ y.size = sz ∧ y.isAgg = ag ∧ off + sz ≤ cs.length
  | [], _, _, _, _, _, _, e => by simp [AV.atL] at e
  | x :: l, _, off, sz, ag, y, .cons (cs := cs) (ds := ds) h t, e => by
    simp only [AV.atL] at e
    have hs := (occA_size h).1
    split at e
    · obtain ⟨h1, h2, h3, h4⟩ := occA_at x h e
      refine ⟨?_, h2, h3, by simp; omega⟩
      rw [take_drop_left h4]
      exact h1
    · obtain ⟨h1, h2, h3, h4⟩ := occAL_at l t e
      refine ⟨?_, h2, h3, by simp; omega⟩
      rw [take_drop_app (by omega), hs]
      exact h1
end

/-! ### another part -/
mutual
def AV.set_ : AV → Nat → AV → Option AV
  | .d x, off, v => (v.toD).bind fun y => (x.set_ off y).map .d
  | .agg l, off, v => if off = 0 ∧ v.size = AV.sizeL l ∧ v.isAgg = true then some v else (AV.setL l off v).map .agg
  | .any, _, _ => none
  | .tup _, _, _ => none
  | .full _, off, v => if off = 0 ∧ v.size = 1 ∧ v.isAgg = false then some v else none
  | .own _ _, off, v => if off = 0 ∧ v.size = 1 ∧ v.isAgg = false then some v else none
  | .msl _ _, off, v => if off = 0 ∧ v.size = 1 ∧ v.isAgg = false then some v else none
  | .ptr _ _, off, v => if off = 0 ∧ v.size = 1 ∧ v.isAgg = false then some v else none
  | .eptr _ _ _, off, v => if off = 0 ∧ v.size = 1 ∧ v.isAgg = false then some v else none
  | .kp _, off, v => if off = 0 ∧ v.size = 1 ∧ v.isAgg = false then some v else none
  | .kpp _ _, off, v => if off = 0 ∧ v.size = 1 ∧ v.isAgg = false then some v else none
  | .ptrs _, off, v => if off = 0 ∧ v.size = 1 ∧ v.isAgg = false then some v else none
  | .fn _ _, off, v => if off = 0 ∧ v.size = 1 ∧ v.isAgg = false then some v else none
  | .iface _ _, off, v => if off = 0 ∧ v.size = 1 ∧ v.isAgg = false then some v else none
  | .con _, off, v => if off = 0 ∧ v.size = 1 ∧ v.isAgg = false then some v else none
def AV.setL : List AV → Nat → AV → Option (List AV)
  | [], _, _ => none
  | x :: l, off, v => if off < x.size then (x.set_ off v).map (· :: l) else (AV.setL l (off - x.size) v).map (x :: ·)
end
theorem set_leaf {G : Gh} {x v y : AV} {cs vs : List Value} {off : Nat} (h : OccA G x cs) (hs : x.size = 1) (hv : OccA G v vs)
    (e : (if off = 0 ∧ v.size = 1 ∧ v.isAgg = false then some v else none) = some y) : OccA G y (splice cs off vs) ∧ y.size = x.size ∧ off + vs.length ≤ cs.length := by
  split at e
  · rename_i hc
    obtain ⟨rfl, h2, _⟩ := hc
    cases e
    have h3 := (occA_size h).1
    have h4 := (occA_size hv).1
    rw [splice_all (by omega)]
    exact ⟨hv, by omega, by omega⟩
  · cases e
mutual
theorem occA_set {G : Gh} : ∀ (x : AV) {cs : List Value} {off : Nat} {v y : AV} {vs : List Value}, OccA G x cs → OccA G v vs → x.set_ off v = some y →
    OccA G y (splice cs off vs) ∧ y.size = x.size ∧ off + vs.length ≤ cs.length
  | .d x, cs, off, v, y, vs, h, hv, e => by
    simp only [AV.set_] at e
    obtain ⟨z, hz, e⟩ := Option.bind_eq_some_iff.1 e
    obtain ⟨u, hu, rfl⟩ := Option.map_eq_some_iff.1 e
    cases h with
    | d h =>
      obtain ⟨h1, h2, h3⟩ := occ_set x h (occA_toD v hv hz) hu
      exact ⟨.d h1, h2, h3⟩
  | .agg l, cs, off, v, y, vs, h, hv, e => by
    simp only [AV.set_] at e
    have hn := (occA_size hv).1
    have hs := (occA_size h).1
    split at e
    · rename_i hc
      obtain ⟨rfl, h2, _⟩ := hc
      cases e
      simp only [AV.size] at hs
      rw [splice_all (by omega)]
      exact ⟨hv, h2, by omega⟩
    · cases h with
      | agg h =>
        obtain ⟨m, hm, rfl⟩ := Option.map_eq_some_iff.1 e
        obtain ⟨h1, h2, h3⟩ := occAL_set l h hv hm
        exact ⟨.agg h1, h2, h3⟩
  | .full l, _, _, _, _, _, h, hv, e => set_leaf h rfl hv e
  | .own l t, _, _, _, _, _, h, hv, e => set_leaf h rfl hv e
  | .msl b n, _, _, _, _, _, h, hv, e => set_leaf h rfl hv e
  | .ptr b o, _, _, _, _, _, h, hv, e => set_leaf h rfl hv e
  | .eptr b o s, _, _, _, _, _, h, hv, e => set_leaf h rfl hv e
  | .kp x, _, _, _, _, _, h, hv, e => set_leaf h rfl hv e
  | .kpp b o, _, _, _, _, _, h, hv, e => set_leaf h rfl hv e
  | .ptrs l, _, _, _, _, _, h, hv, e => set_leaf h rfl hv e
  | .fn f c, _, _, _, _, _, h, hv, e => set_leaf h rfl hv e
  | .iface t x, _, _, _, _, _, h, hv, e => set_leaf h rfl hv e
  | .con v, _, _, _, _, _, h, hv, e => set_leaf h rfl hv e
  | .any, _, _, _, _, _, _, _, e => by simp [AV.set_] at e
  | .tup _, _, _, _, _, _, _, _, e => by simp [AV.set_] at e
theorem occAL_set {G : Gh} : ∀ (l : List AV) {cs : List Value} {off : Nat} {v : AV} {m : List AV} {vs : List Value}, OccAL G l cs → OccA G v vs → AV.setL l off v = some m →
    OccAL G m (splice cs off vs) ∧ AV.sizeL m = AV.sizeL l ∧ off + vs.length ≤ cs.length
  | [], _, _, _, _, _, _, _, e => by simp [AV.setL] at e
  | x :: l, _, off, v, m, vs, .cons (cs := cs) (ds := ds) h t, hv, e => by
    simp only [AV.setL] at e
    have hs := (occA_size h).1
    split at e
    · obtain ⟨y, hy, rfl⟩ := Option.map_eq_some_iff.1 e
      obtain ⟨h1, h2, h3⟩ := occA_set x h hv hy
      rw [splice_left h3]
      exact ⟨.cons h1 t, by simp [AV.sizeL, h2], by simp; omega⟩
    · obtain ⟨m', hm, rfl⟩ := Option.map_eq_some_iff.1 e
      obtain ⟨h1, h2, h3⟩ := occAL_set l t hv hm
      rw [splice_right (by omega), hs]
      exact ⟨.cons h h1, by simp [AV.sizeL, h2], by simp; omega⟩
end
end Go.Am
