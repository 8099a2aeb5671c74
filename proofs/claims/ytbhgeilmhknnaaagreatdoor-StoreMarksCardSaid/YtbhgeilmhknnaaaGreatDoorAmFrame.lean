/- The abstract machine, part 21: what is shown of some boxes and tokens holds beside others. -/
import Derived.Test.YtbhgeilmhknnaaaGreatDoorAmRule
namespace Go.Am

mutual
def AV.ren (m mt : List Nat) : AV → AV
  | .any => .any
  | .d x => .d x
  | .full l => .full l
  | .own l t => .own l (mt.getD t 0)
  | .msl b n => .msl (m.getD b 0) n
  | .ptr b o => .ptr (m.getD b 0) o
  | .eptr b i sz => .eptr (m.getD b 0) i sz
  | .kp x => .kp x
  | .kpp b o => .kpp (m.getD b 0) o
  | .ptrs l => .ptrs (l.map fun p => (m.getD p.1 0, p.2))
  | .agg l => .agg (AV.renL m mt l)
  | .tup l => .tup (AV.renL m mt l)
  | .fn f l => .fn f (AV.renL m mt l)
  | .iface t x => .iface t (x.ren m mt)
  | .con v => .con v
def AV.renL (m mt : List Nat) : List AV → List AV
  | [] => []
  | x :: l => x.ren m mt :: AV.renL m mt l
end
def Box.ren (m mt : List Nat) : Box → Box
  | .var v => .var (v.ren m mt)
  | b => b

theorem ren_agg (m mt : List Nat) (v : AV) : (v.ren m mt).isAgg = v.isAgg := by cases v <;> rfl

section
variable {G H : Gh} {m mt : List Nat}
/-- From the few to the many. -/
structure Up (G H : Gh) (m mt : List Nat) : Prop where
  K : ∀ b o v, G.K b o = some v → H.K b o = some v
  mu : ∀ (i blk : Nat), i < m.length → G.mu[i]? = some (some blk) → H.mu[m.getD i 0]? = some (some blk)
  tk : ∀ (i : Nat) (t : Tk), i < mt.length → G.tk[i]? = some t → H.tk[mt.getD i 0]? = some t
  k : ∀ (i n : Nat), i < mt.length → G.k[i]? = some (some n) → H.k[mt.getD i 0]? = some (some n)
variable (up : Up G H m mt)
include up
theorem up_own {l : List D} {t n : Nat} {tk : Tk} {c : Value} (hn : G.k[t]? = some (some n)) (hl : l.length ≤ n) (ht : G.tk[t]? = some tk) (hi : l.length = n → tk.is G.K l c) (h : Occ G.K (.sl l) [c]) (hc : decide (t < mt.length) = true) : OccA H (.own l (mt.getD t 0)) [c] :=
  .own (up.k _ _ (by simpa using hc) hn) hl (up.tk _ _ (by simpa using hc) ht) (fun e => Tk.is_mono up.K (hi e)) (occ_mono up.K h)
theorem up_ptrs {l : List (Nat × Nat)} {b o : Nat} (h : ∀ (j : Nat) (p : Nat × Nat), l[j]? = some p → ∃ blk, G.mu[p.1]? = some (some blk) ∧ G.K b (o + j) = some (.pointer (some ⟨blk, p.2, none⟩))) (hc : (l.all fun p => decide (p.1 < m.length)) = true) :
    OccA H (.ptrs (l.map fun p => (m.getD p.1 0, p.2))) [.slice (some ⟨b, o, none⟩) l.length l.length] := by
  have : OccA H (.ptrs (l.map fun p => (m.getD p.1 0, p.2))) [.slice (some ⟨b, o, none⟩) (l.map fun p => (m.getD p.1 0, p.2)).length (l.map fun p => (m.getD p.1 0, p.2)).length] := by
    refine .ptrs fun j p hj => ?_
    rw [List.getElem?_map, Option.map_eq_some_iff] at hj
    obtain ⟨q, hq, rfl⟩ := hj
    obtain ⟨blk, h1, h2⟩ := h j q hq
    simp only [List.all_eq_true, decide_eq_true_eq] at hc
    exact ⟨blk, up.mu _ _ (hc q (List.mem_of_getElem? hq)) h1, up.K _ _ _ h2⟩
  simpa using this
theorem upA {v : AV} {cs : List Value} (h : OccA G v cs) : v.bnd m.length mt.length = true → OccA H (v.ren m mt) cs :=
  OccA.rec (G := G) (motive_1 := fun v cs _ => v.bnd m.length mt.length = true → OccA H (v.ren m mt) cs) (motive_2 := fun v cs _ => AV.bndL m.length mt.length v = true → OccAL H (AV.renL m mt v) cs) (motive_3 := fun v c _ => v.bnd m.length mt.length = true → OccV H (v.ren m mt) c) (motive_4 := fun v c _ => AV.bndL m.length mt.length v = true → OccVL H (AV.renL m mt v) c)
    (fun h _ => .d (occ_mono up.K h)) (fun _ => .fulln) (fun hsz h _ => .full hsz (occR_mono up.K h)) (fun hn hl ht hi h hc => up_own up hn hl ht hi h hc)
    (fun h hl hc => .msl (up.mu _ _ (by simpa [AV.bnd] using hc) h) hl) (fun h hc => .ptr (up.mu _ _ (by simpa [AV.bnd] using hc) h)) (fun h hc => .eptr (up.mu _ _ (by simpa [AV.bnd] using hc) h))
    (fun h hk _ => .kp (occ_mono up.K h) (fun j v hj => up.K _ _ _ (hk j v hj))) (fun h hk hc => .kpp (up.mu _ _ (by simpa [AV.bnd] using hc) h) (up.K _ _ _ hk)) (fun h hc => up_ptrs up h hc)
    (fun _ h hc => .agg (h hc)) (fun _ h hc => .fn (h hc)) (fun _ h hc => .iface (h hc)) (fun h _ => .con h) (fun _ => .nil)
    (fun _ _ h t hc => by simp only [AV.bndL, Bool.and_eq_true] at hc; exact .cons (h hc.1) (t hc.2))
    (fun c _ => .any c) (fun {v} _ ha _ h hc => .one (by rw [ren_agg]; exact ha) (h hc)) (fun {v} _ ha _ h hc => .agg (by rw [ren_agg]; exact ha) (h hc)) (fun _ h hc => .tup (h hc)) (fun _ => .nil)
    (fun _ _ h t hc => by simp only [AV.bndL, Bool.and_eq_true] at hc; exact .cons (h hc.1) (t hc.2)) h
theorem upV {v : AV} {c : Value} (h : OccV G v c) : v.bnd m.length mt.length = true → OccV H (v.ren m mt) c :=
  OccV.rec (G := G) (motive_1 := fun v cs _ => v.bnd m.length mt.length = true → OccA H (v.ren m mt) cs) (motive_2 := fun v cs _ => AV.bndL m.length mt.length v = true → OccAL H (AV.renL m mt v) cs) (motive_3 := fun v c _ => v.bnd m.length mt.length = true → OccV H (v.ren m mt) c) (motive_4 := fun v c _ => AV.bndL m.length mt.length v = true → OccVL H (AV.renL m mt v) c)
    (fun h _ => .d (occ_mono up.K h)) (fun _ => .fulln) (fun hsz h _ => .full hsz (occR_mono up.K h)) (fun hn hl ht hi h hc => up_own up hn hl ht hi h hc)
    (fun h hl hc => .msl (up.mu _ _ (by simpa [AV.bnd] using hc) h) hl) (fun h hc => .ptr (up.mu _ _ (by simpa [AV.bnd] using hc) h)) (fun h hc => .eptr (up.mu _ _ (by simpa [AV.bnd] using hc) h))
    (fun h hk _ => .kp (occ_mono up.K h) (fun j v hj => up.K _ _ _ (hk j v hj))) (fun h hk hc => .kpp (up.mu _ _ (by simpa [AV.bnd] using hc) h) (up.K _ _ _ hk)) (fun h hc => up_ptrs up h hc)
    (fun _ h hc => .agg (h hc)) (fun _ h hc => .fn (h hc)) (fun _ h hc => .iface (h hc)) (fun h _ => .con h) (fun _ => .nil)
    (fun _ _ h t hc => by simp only [AV.bndL, Bool.and_eq_true] at hc; exact .cons (h hc.1) (t hc.2))
    (fun c _ => .any c) (fun {v} _ ha _ h hc => .one (by rw [ren_agg]; exact ha) (h hc)) (fun {v} _ ha _ h hc => .agg (by rw [ren_agg]; exact ha) (h hc)) (fun _ h hc => .tup (h hc)) (fun _ => .nil)
    (fun _ _ h t hc => by simp only [AV.bndL, Bool.and_eq_true] at hc; exact .cons (h hc.1) (t hc.2)) h
end

section
variable {G H : Gh} {m mt : List Nat}
/-- From the many to the few. -/
structure Down (G H : Gh) (m mt : List Nat) : Prop where
  K : ∀ b o v, G.K b o = some v → H.K b o = some v
  mu : ∀ (i blk : Nat), i < m.length → G.mu[m.getD i 0]? = some (some blk) → H.mu[i]? = some (some blk)
  tk : ∀ (i : Nat) (t : Tk), i < mt.length → G.tk[mt.getD i 0]? = some t → H.tk[i]? = some t
  k : ∀ (i n : Nat), i < mt.length → G.k[mt.getD i 0]? = some (some n) → H.k[i]? = some (some n)
variable (dn : Down G H m mt)
include dn
theorem down_own {l : List D} {t n : Nat} {tk : Tk} {c : Value} (hn : G.k[t]? = some (some n)) (hl : l.length ≤ n) (ht : G.tk[t]? = some tk) (hi : l.length = n → tk.is G.K l c) (h : Occ G.K (.sl l) [c]) : ∀ v : AV, v.ren m mt = .own l t → v.bnd m.length mt.length = true → OccA H v [c] := by
  intro v e hc
  cases v <;> simp only [AV.ren, reduceCtorEq, AV.own.injEq] at e
  obtain ⟨rfl, rfl⟩ := e
  simp only [AV.bnd, decide_eq_true_eq] at hc
  exact .own (dn.k _ _ hc hn) hl (dn.tk _ _ hc ht) (fun e => Tk.is_mono dn.K (hi e)) (occ_mono dn.K h)
theorem down_ptrs {l : List (Nat × Nat)} {b o : Nat} (h : ∀ (j : Nat) (p : Nat × Nat), l[j]? = some p → ∃ blk, G.mu[p.1]? = some (some blk) ∧ G.K b (o + j) = some (.pointer (some ⟨blk, p.2, none⟩))) :
    ∀ v : AV, v.ren m mt = .ptrs l → v.bnd m.length mt.length = true → OccA H v [.slice (some ⟨b, o, none⟩) l.length l.length] := by
  intro v e hc
  cases v <;> simp only [AV.ren, reduceCtorEq, AV.ptrs.injEq] at e
  rename_i l0
  subst e
  simp only [AV.bnd, List.all_eq_true, decide_eq_true_eq] at hc
  have : OccA H (.ptrs l0) [.slice (some ⟨b, o, none⟩) l0.length l0.length] := by
    refine .ptrs fun j p hj => ?_
    obtain ⟨blk, h1, h2⟩ := h j (m.getD p.1 0, p.2) (by rw [List.getElem?_map, hj]; rfl)
    exact ⟨blk, dn.mu _ _ (hc p (List.mem_of_getElem? hj)) h1, dn.K _ _ _ h2⟩
  simpa using this
theorem downA {u : AV} {cs : List Value} (h : OccA G u cs) : ∀ v : AV, v.ren m mt = u → v.bnd m.length mt.length = true → OccA H v cs := by
  refine OccA.rec (G := G) (motive_1 := fun u cs _ => ∀ v : AV, v.ren m mt = u → v.bnd m.length mt.length = true → OccA H v cs) (motive_2 := fun u cs _ => ∀ v : List AV, AV.renL m mt v = u → AV.bndL m.length mt.length v = true → OccAL H v cs)
    (motive_3 := fun u c _ => ∀ v : AV, v.ren m mt = u → v.bnd m.length mt.length = true → OccV H v c) (motive_4 := fun u c _ => ∀ v : List AV, AV.renL m mt v = u → AV.bndL m.length mt.length v = true → OccVL H v c)
    ?d ?fulln ?full ?own ?msl ?ptr ?eptr ?kp ?kpp ?ptrs ?agg ?fn ?iface ?con ?anil ?acons ?any ?one ?vagg ?tup ?vnil ?vcons h
  case own => intro l t n tk c hn hl ht hi h; exact down_own dn hn hl ht hi h
  case ptrs => intro l b o h; exact down_ptrs dn h
  case d =>
    intro x cs h v e hc
    cases v <;> simp only [AV.ren, reduceCtorEq, AV.d.injEq] at e
    subst e; exact .d (occ_mono dn.K h)
  case fulln =>
    intro v e hc
    cases v <;> simp only [AV.ren, reduceCtorEq, AV.full.injEq] at e
    subst e; exact .fulln
  case full =>
    intro l b o sz hsz h v e hc
    cases v <;> simp only [AV.ren, reduceCtorEq, AV.full.injEq] at e
    subst e; exact .full hsz (occR_mono dn.K h)
  case msl =>
    intro b n c blk h hl v e hc
    cases v <;> simp only [AV.ren, reduceCtorEq, AV.msl.injEq] at e
    obtain ⟨rfl, rfl⟩ := e
    exact .msl (dn.mu _ _ (by simpa [AV.bnd] using hc) h) hl
  case ptr =>
    intro b o blk h v e hc
    cases v <;> simp only [AV.ren, reduceCtorEq, AV.ptr.injEq] at e
    obtain ⟨rfl, rfl⟩ := e
    exact .ptr (dn.mu _ _ (by simpa [AV.bnd] using hc) h)
  case eptr =>
    intro b i sz blk h v e hc
    cases v <;> simp only [AV.ren, reduceCtorEq, AV.eptr.injEq] at e
    obtain ⟨rfl, rfl, rfl⟩ := e
    exact .eptr (dn.mu _ _ (by simpa [AV.bnd] using hc) h)
  case kp =>
    intro x b o cs h hk v e hc
    cases v <;> simp only [AV.ren, reduceCtorEq, AV.kp.injEq] at e
    subst e; exact .kp (occ_mono dn.K h) (fun j v hj => dn.K _ _ _ (hk j v hj))
  case kpp =>
    intro b o blk c p h hk v e hc
    cases v <;> simp only [AV.ren, reduceCtorEq, AV.kpp.injEq] at e
    obtain ⟨rfl, rfl⟩ := e
    exact .kpp (dn.mu _ _ (by simpa [AV.bnd] using hc) h) (dn.K _ _ _ hk)
  case agg =>
    intro l cs _ ih v e hc
    cases v <;> simp only [AV.ren, reduceCtorEq, AV.agg.injEq] at e
    exact .agg (ih _ e hc)
  case fn =>
    intro f c vs _ ih v e hc
    cases v <;> simp only [AV.ren, reduceCtorEq, AV.fn.injEq] at e
    obtain ⟨rfl, e⟩ := e
    exact .fn (ih _ e hc)
  case iface =>
    intro t x v _ ih v' e hc
    cases v' <;> simp only [AV.ren, reduceCtorEq, AV.iface.injEq] at e
    obtain ⟨rfl, e⟩ := e
    exact .iface (ih _ e hc)
  case con =>
    intro x h v e hc
    cases v <;> simp only [AV.ren, reduceCtorEq, AV.con.injEq] at e
    subst e; exact .con h
  case anil =>
    intro v e hc
    cases v <;> simp only [AV.renL, reduceCtorEq] at e
    exact .nil
  case acons =>
    intro x l cs ds _ _ ih it v e hc
    cases v <;> simp only [AV.renL, reduceCtorEq, List.cons.injEq] at e
    simp only [AV.bndL, Bool.and_eq_true] at hc
    exact .cons (ih _ e.1 hc.1) (it _ e.2 hc.2)
  case any =>
    intro c v e hc
    cases v <;> simp only [AV.ren, reduceCtorEq] at e
    exact .any c
  case one =>
    intro u c ha _ ih v e hc
    exact .one (by rw [← ren_agg m mt v, e]; exact ha) (ih v e hc)
  case vagg =>
    intro u cs ha _ ih v e hc
    exact .agg (by rw [← ren_agg m mt v, e]; exact ha) (ih v e hc)
  case tup =>
    intro l vs _ ih v e hc
    cases v <;> simp only [AV.ren, reduceCtorEq, AV.tup.injEq] at e
    exact .tup (ih _ e hc)
  case vnil =>
    intro v e hc
    cases v <;> simp only [AV.renL, reduceCtorEq] at e
    exact .nil
  case vcons =>
    intro x l cs ds _ _ ih it v e hc
    cases v <;> simp only [AV.renL, reduceCtorEq, List.cons.injEq] at e
    simp only [AV.bndL, Bool.and_eq_true] at hc
    exact .cons (ih _ e.1 hc.1) (it _ e.2 hc.2)
end
theorem downV {G H : Gh} {m mt : List Nat} (dn : Down G H m mt) {v : AV} {c : Value} (h : OccV G (v.ren m mt) c) (hc : v.bnd m.length mt.length = true) : OccV H v c := by
  have h1 : OccA G ((AV.iface 0 v).ren m mt) [.iface 0 c] := .iface h
  have h2 := downA dn h1 (.iface 0 v) rfl hc
  cases h2 with
  | iface h => exact h
theorem downVL {G H : Gh} {m mt : List Nat} (dn : Down G H m mt) : ∀ {l : List AV} {cs : List Value}, OccVL G (AV.renL m mt l) cs → AV.bndL m.length mt.length l = true → OccVL H l cs
  | [], _, .nil, _ => .nil
  | x :: l, _, .cons h t, hc => by
    simp only [AV.bndL, Bool.and_eq_true] at hc
    exact .cons (downV dn h hc.1) (downVL dn t hc.2)

theorem setAll_at {α : Type} : ∀ (m : List Nat) (E h : List α) (i : Nat), m.Nodup → m.length = E.length → (∀ b ∈ m, b < h.length) → i < m.length → (setAll h m E)[m.getD i 0]? = E[i]?
  | [], _, h, i, _, _, _, hi => by simp at hi
  | b :: m, [], h, i, _, hl, _, _ => by simp at hl
  | b :: m, x :: E, h, 0, hn, hl, hb, _ => by
    simp only [List.nodup_cons] at hn
    show (setAll (h.set b x) m E)[b]? = some x
    rw [setAll_out _ _ _ _ hn.1, List.getElem?_set_self (hb b (List.mem_cons_self ..))]
  | b :: m, x :: E, h, i + 1, hn, hl, hb, hi => by
    simp only [List.nodup_cons] at hn
    exact setAll_at m E (h.set b x) i hn.2 (by simpa using hl) (fun c hc => by rw [List.length_set]; exact hb c (List.mem_cons_of_mem _ hc)) (by simpa using hi)
theorem mem_getD {m : List Nat} {b : Nat} (h : b ∈ m) : ∃ i, i < m.length ∧ m.getD i 0 = b := by
  obtain ⟨i, hi, he⟩ := List.mem_iff_getElem.1 h
  exact ⟨i, hi, by rw [List.getD_eq_getElem?_getD, List.getElem?_eq_getElem hi]; exact he⟩
theorem getD_mem {m : List Nat} {i : Nat} (h : i < m.length) : m.getD i 0 ∈ m := by
  rw [List.getD_eq_getElem?_getD, List.getElem?_eq_getElem h]
  exact List.getElem_mem h
theorem nodup_getD {m : List Nat} (hn : m.Nodup) {i j : Nat} (hi : i < m.length) (hj : j < m.length) (e : m.getD i 0 = m.getD j 0) : i = j := by
  rw [List.getD_eq_getElem?_getD, List.getD_eq_getElem?_getD, List.getElem?_eq_getElem hi, List.getElem?_eq_getElem hj] at e
  exact (List.getElem_inj hn).1 e
theorem map_some {α : Type} {l : List α} {m : List Nat} {E : List α} (h : m.map (l[·]?) = E.map some) {i : Nat} (hi : i < m.length) : l[m.getD i 0]? = E[i]? := by
  have h1 := congrArg (·[i]?) h
  simp only [List.getElem?_map] at h1
  rw [List.getElem?_eq_getElem hi] at h1
  rw [List.getD_eq_getElem?_getD, List.getElem?_eq_getElem hi]
  simp only [Option.map_some, Option.getD_some] at h1 ⊢
  cases hE : E[i]? with
  | none => rw [hE] at h1; cases h1
  | some x => rw [hE] at h1; simpa using h1

/-- The part of what is known that a few boxes and tokens are. -/
def Gh.sub (G : Gh) (m mt : List Nat) : Gh := { K := G.K, mu := m.map fun b => (G.mu[b]?).getD none, tk := mt.map fun t => (G.tk[t]?).getD ⟨none, 0, 0⟩, k := mt.map fun t => (G.k[t]?).getD none }
def Gh.join (G L : Gh) (m mt : List Nat) : Gh := { K := L.K, mu := setAll G.mu m L.mu, tk := setAll G.tk mt L.tk, k := setAll G.k mt L.k }
theorem map_at {β : Type} {m : List Nat} {f : Nat → β} {i : Nat} (hi : i < m.length) : (m.map f)[i]? = some (f (m.getD i 0)) := by
  rw [List.getElem?_map, List.getElem?_eq_getElem hi, List.getD_eq_getElem?_getD, List.getElem?_eq_getElem hi]
  rfl

section
variable {P : Program}
theorem frame {f : FuncId} {args : List AV} {E E' : List Box} {T T' : List (Option Nat)} {r : AV} (h : CallOK P f args E T r E' T') (m mt : List Nat) (hm : m.Nodup) (hmt : mt.Nodup) (hE : m.length = E.length) (hE' : m.length = E'.length) (hT : mt.length = T.length) (hT' : mt.length = T'.length)
    (ha : AV.bndL m.length mt.length args = true) (hb : E.all (Box.bnd m.length mt.length) = true) (hr : r.bnd m.length mt.length = true) (hb' : E'.all (Box.bnd m.length mt.length) = true) :
    CallL P f (AV.renL m mt args) m (E.map (Box.ren m mt)) mt T (r.ren m mt) (E'.map (Box.ren m mt)) T' := by
  intro hp k hhp hk
  refine ⟨h.1, fun G w cs hh hKK hGk hargs => ?_⟩
  subst hGk
  simp only [List.all_eq_true] at hb hb'
  -- where they are
  have hbox : ∀ i, i < m.length → hp[m.getD i 0]? = (E.map (Box.ren m mt))[i]? := fun i hi => map_some hhp hi
  have htok : ∀ i, i < mt.length → G.k[mt.getD i 0]? = T[i]? := fun i hi => map_some hk hi
  have hml : ∀ b ∈ m, b < G.mu.length := by
    intro b hb
    obtain ⟨i, hi, rfl⟩ := mem_getD hb
    have h1 := hbox i hi
    obtain ⟨x, hx⟩ : ∃ x, (E.map (Box.ren m mt))[i]? = some x := ⟨_, List.getElem?_eq_getElem (by simp; omega)⟩
    rw [hx] at h1
    rw [hh.mulen]
    exact (List.getElem?_eq_some_iff.1 h1).1
  have hmtl : ∀ t ∈ mt, t < G.k.length := by
    intro b hb
    obtain ⟨i, hi, rfl⟩ := mem_getD hb
    have h1 := htok i hi
    obtain ⟨x, hx⟩ : ∃ x, T[i]? = some x := ⟨_, List.getElem?_eq_getElem (by omega)⟩
    rw [hx] at h1
    exact (List.getElem?_eq_some_iff.1 h1).1
  have hmtl' : ∀ t ∈ mt, t < G.tk.length := fun t ht => by rw [hh.tklen]; exact hmtl t ht
  let L := G.sub m mt
  have Lmu : ∀ i, i < m.length → L.mu[i]? = G.mu[m.getD i 0]? := by
    intro i hi
    show (m.map _)[i]? = _
    rw [map_at hi, List.getElem?_eq_getElem (hml _ (getD_mem hi))]
    rfl
  have Ltk : ∀ i, i < mt.length → L.tk[i]? = G.tk[mt.getD i 0]? := by
    intro i hi
    show (mt.map _)[i]? = _
    rw [map_at hi, List.getElem?_eq_getElem (hmtl' _ (getD_mem hi))]
    rfl
  have Lk : ∀ i, i < mt.length → L.k[i]? = G.k[mt.getD i 0]? := by
    intro i hi
    show (mt.map _)[i]? = _
    rw [map_at hi, List.getElem?_eq_getElem (hmtl _ (getD_mem hi))]
    rfl
  have Lmul : L.mu.length = m.length := by simp [L, Gh.sub]
  have Ltkl : L.tk.length = mt.length := by simp [L, Gh.sub]
  have Lkl : L.k.length = mt.length := by simp [L, Gh.sub]
  have lti : ∀ {α : Type} {l : List α} {i : Nat} {x : α}, l[i]? = some x → i < l.length := fun e => (List.getElem?_eq_some_iff.1 e).1
  have hLk : L.k = T := by
    apply List.ext_getElem?
    intro i
    by_cases hi : i < mt.length
    · rw [Lk i hi]; exact htok i hi
    · rw [List.getElem?_eq_none (by omega), List.getElem?_eq_none (by omega)]
  have dn : Down G L m mt := ⟨fun _ _ _ e => e, fun i blk hi e => by rw [Lmu i hi]; exact e, fun i t hi e => by rw [Ltk i hi]; exact e, fun i n hi e => by rw [Lk i hi]; exact e⟩
  -- what the few own the many own
  have hown : ∀ blk, L.owns blk → G.owns blk := by
    rintro blk (⟨b, e⟩ | ⟨t, tk, n, o, e1, e2, e3, e4⟩)
    · have hi : b < m.length := by rw [← Lmul]; exact lti e
      exact .inl ⟨_, by rw [← Lmu b hi]; exact e⟩
    · have hi : t < mt.length := by rw [← Lkl]; exact lti e2
      exact .inr ⟨_, tk, n, o, by rw [← Ltk t hi]; exact e1, by rw [← Lk t hi]; exact e2, e3, e4⟩
  have hheap : HeapOK L E w := by
    refine ⟨by omega, by omega, fun b b' blk e e' => ?_, fun b blk e => ?_, fun b x hx => ?_, hh.know, fun t tk n e1 e2 => ?_, fun t t' tk tk' n n' b o o' hne e1 e2 e3 e4 e5 e6 => ?_⟩
    · have hi : b < m.length := by rw [← Lmul]; exact lti e
      have hi' : b' < m.length := by rw [← Lmul]; exact lti e'
      rw [Lmu b hi] at e
      rw [Lmu b' hi'] at e'
      exact nodup_getD hm hi hi' (hh.inj _ _ _ e e')
    · have hi : b < m.length := by rw [← Lmul]; exact lti e
      rw [Lmu b hi] at e
      exact hh.lt _ _ e
    · have hi : b < m.length := by rw [hE]; exact lti hx
      have h1 := hbox b hi
      rw [List.getElem?_map, hx] at h1
      have h2 := hh.boxes _ _ h1
      have hbx := hb x (List.mem_of_getElem? hx)
      cases x with
      | hole => exact (Lmu b hi).trans h2
      | var v =>
        obtain ⟨blk, cs, ty, g1, g2, g3, g4⟩ := h2
        exact ⟨blk, cs, ty, (Lmu b hi).trans g1, g2, downA dn g3 v rfl hbx, g4⟩
      | row l sz =>
        obtain ⟨blk, cs, ty, g1, g2⟩ := h2
        exact ⟨blk, cs, ty, (Lmu b hi).trans g1, g2⟩
      | fz y =>
        obtain ⟨blk, cs, g1, g2⟩ := h2
        exact ⟨blk, cs, (Lmu b hi).trans g1, g2⟩
    · have hi : t < mt.length := by rw [← Lkl]; exact lti e2
      rw [Ltk t hi] at e1
      rw [Lk t hi] at e2
      have := hh.tok _ tk n e1 e2
      unfold Tk.ok at this ⊢
      split
      · rename_i he
        simpa [he] using this
      · rename_i b o he
        simp only [he] at this
        refine ⟨this.1, this.2.1, fun hn => ?_⟩
        obtain ⟨c, ty, g1, g2, g3, g4⟩ := this.2.2 hn
        exact ⟨c, ty, g1, g2, g3, fun i e => g4 (m.getD i 0) (by rw [← Lmu i (by rw [← Lmul]; exact lti e)]; exact e)⟩
    · have hi : t < mt.length := by rw [← Lkl]; exact lti e3
      have hi' : t' < mt.length := by rw [← Lkl]; exact lti e4
      rw [Ltk t hi] at e1
      rw [Ltk t' hi'] at e2
      rw [Lk t hi] at e3
      rw [Lk t' hi'] at e4
      exact hh.tokinj _ _ tk tk' n n' b o o' (fun e => hne (nodup_getD hmt hi hi' e)) e1 e2 e3 e4 e5 e6
  refine (h.2 L w cs hheap hKK hLk (downVL dn hargs ha)).mono ?_
  rintro e w' ⟨L', v, rfl, h1, h2, h3, h4⟩
  let J := G.join L' m mt
  have L'mul : L'.mu.length = m.length := by rw [h1.mulen]; exact hE'.symm
  have L'kl : L'.k.length = mt.length := by rw [h2]; exact hT'.symm
  have L'tkl : L'.tk.length = mt.length := h1.tklen.trans L'kl
  have Jmu : ∀ i, i < m.length → J.mu[m.getD i 0]? = L'.mu[i]? := fun i hi => setAll_at _ _ _ _ hm L'mul.symm hml hi
  have Jtk : ∀ i, i < mt.length → J.tk[mt.getD i 0]? = L'.tk[i]? := fun i hi => setAll_at _ _ _ _ hmt L'tkl.symm hmtl' hi
  have Jk : ∀ i, i < mt.length → J.k[mt.getD i 0]? = L'.k[i]? := fun i hi => setAll_at _ _ _ _ hmt L'kl.symm hmtl hi
  have Jmu' : ∀ b, b ∉ m → J.mu[b]? = G.mu[b]? := fun b hb => setAll_out _ _ _ _ hb
  have Jtk' : ∀ b, b ∉ mt → J.tk[b]? = G.tk[b]? := fun b hb => setAll_out _ _ _ _ hb
  have Jk' : ∀ b, b ∉ mt → J.k[b]? = G.k[b]? := fun b hb => setAll_out _ _ _ _ hb
  have up : Up L' J m mt := ⟨fun _ _ _ e => e, fun i blk hi e => by rw [Jmu i hi]; exact e, fun i t hi e => by rw [Jtk i hi]; exact e, fun i n hi e => by rw [Jk i hi]; exact e⟩
  -- a box of the many: one of the few, or another one
  have cmu : ∀ (b blk : Nat), J.mu[b]? = some (some blk) → (∃ i, i < m.length ∧ b = m.getD i 0 ∧ L'.mu[i]? = some (some blk)) ∨ (b ∉ m ∧ G.mu[b]? = some (some blk)) := by
    intro b blk e
    by_cases hbm : b ∈ m
    · obtain ⟨i, hi, rfl⟩ := mem_getD hbm
      exact .inl ⟨i, hi, rfl, by rw [← Jmu i hi]; exact e⟩
    · exact .inr ⟨hbm, by rw [← Jmu' b hbm]; exact e⟩
  have ctk : ∀ (t : Nat) (tk : Tk) (n : Nat), J.tk[t]? = some tk → J.k[t]? = some (some n) → (∃ i, i < mt.length ∧ t = mt.getD i 0 ∧ L'.tk[i]? = some tk ∧ L'.k[i]? = some (some n)) ∨ (t ∉ mt ∧ G.tk[t]? = some tk ∧ G.k[t]? = some (some n)) := by
    intro t tk n e1 e2
    by_cases hbm : t ∈ mt
    · obtain ⟨i, hi, rfl⟩ := mem_getD hbm
      exact .inl ⟨i, hi, rfl, by rw [← Jtk i hi]; exact e1, by rw [← Jk i hi]; exact e2⟩
    · exact .inr ⟨hbm, by rw [← Jtk' t hbm]; exact e1, by rw [← Jk' t hbm]; exact e2⟩
  -- the blocks of the others are none of theirs
  have other : ∀ b blk, b ∉ m → G.mu[b]? = some (some blk) → ¬ L.owns blk := by
    rintro b blk hbm e (⟨i, e'⟩ | ⟨t, tk, n, o, e1, e2, e3, e4⟩)
    · have hi : i < m.length := by rw [← Lmul]; exact lti e'
      rw [Lmu i hi] at e'
      exact hbm (by rw [hh.inj _ _ _ e e']; exact getD_mem hi)
    · have hi : t < mt.length := by rw [← Lkl]; exact lti e2
      rw [Ltk t hi] at e1
      rw [Lk t hi] at e2
      have := hh.tok _ tk n e1 e2
      unfold Tk.ok at this
      simp only [e3] at this
      obtain ⟨c, ty, g1, g2, g3, g4⟩ := this.2.2 e4
      exact g4 b e
  have othert : ∀ (t : Nat) (tk : Tk) (n b o : Nat), t ∉ mt → G.tk[t]? = some tk → G.k[t]? = some (some n) → tk.base = some (b, o) → n < tk.cap → ¬ L.owns b := by
    rintro t tk n b o htm e1 e2 e3 e4 (⟨i, e'⟩ | ⟨t', tk', n', o', g1, g2, g3, g4⟩)
    · have hi : i < m.length := by rw [← Lmul]; exact lti e'
      rw [Lmu i hi] at e'
      have := hh.tok _ tk n e1 e2
      unfold Tk.ok at this
      simp only [e3] at this
      obtain ⟨c, ty, g1, g2, g3, g4⟩ := this.2.2 e4
      exact g4 _ e'
    · have hi : t' < mt.length := by rw [← Lkl]; exact lti g2
      rw [Ltk t' hi] at g1
      rw [Lk t' hi] at g2
      have hne : t ≠ mt.getD t' 0 := fun e => htm (by rw [e]; exact getD_mem hi)
      rcases hh.tokinj _ _ tk tk' n n' b o o' hne e1 g1 e2 g2 e3 g3 with h | h <;> omega
  have hle : G.le J := by
    refine ⟨h3.le.K, fun b blk e => ?_, fun t n e => ?_⟩
    · by_cases hbm : b ∈ m
      · obtain ⟨i, hi, rfl⟩ := mem_getD hbm
        rw [Jmu i hi]
        exact h3.le.mu i blk (by rw [Lmu i hi]; exact e)
      · rw [Jmu' b hbm]; exact e
    · by_cases hbm : t ∈ mt
      · obtain ⟨i, hi, rfl⟩ := mem_getD hbm
        obtain ⟨n', g1, g2, g3, g4⟩ := h3.le.k i n (by rw [Lk i hi]; exact e)
        refine ⟨n', by rw [Jk i hi]; exact g1, g2, fun hn => ?_, fun tk ht => ?_⟩
        · rw [Jtk i hi, g3 hn, Ltk i hi]
        · obtain ⟨tk', h5⟩ := g4 tk (by rw [Ltk i hi]; exact ht)
          exact ⟨tk', by rw [Jtk i hi]; exact h5⟩
      · exact ⟨n, by rw [Jk' t hbm]; exact e, Nat.le_refl _, fun _ => Jtk' t hbm, fun tk ht => ⟨tk, by rw [Jtk' t hbm]; exact ht⟩⟩
  refine ⟨J, v, rfl, ⟨?_, ?_, ?_, ?_, ?_, h1.know, ?_, ?_⟩, ?_, ⟨hle, h3.os, h3.tape, h3.output, h3.size, fun blk hlt hno => h3.frame blk hlt fun ho => hno (hown _ ho), fun b o hlt hno => h3.newK b o hlt fun ho => hno (hown _ ho), ?_, ?_⟩, upV up h4 hr⟩
  · -- mulen
    show (setAll G.mu m L'.mu).length = (setAll hp m _).length
    rw [setAll_length, setAll_length]; exact hh.mulen
  · show (setAll G.tk mt L'.tk).length = (setAll G.k mt L'.k).length
    rw [setAll_length, setAll_length]; exact hh.tklen
  · -- inj
    intro b b' blk e e'
    rcases cmu b blk e with ⟨i, hi, rfl, g1⟩ | ⟨hbm, g1⟩ <;> rcases cmu b' blk e' with ⟨j, hj, rfl, g2⟩ | ⟨hbm', g2⟩
    · rw [h1.inj _ _ _ g1 g2]
    · rcases h3.newmu i blk g1 with g3 | g3
      · rw [Lmu i hi] at g3
        exact hh.inj _ _ _ g3 g2
      · have := hh.lt _ _ g2
        omega
    · rcases h3.newmu j blk g2 with g3 | g3
      · rw [Lmu j hj] at g3
        exact hh.inj _ _ _ g1 g3
      · have := hh.lt _ _ g1
        omega
    · exact hh.inj _ _ _ g1 g2
  · -- lt
    intro b blk e
    rcases cmu b blk e with ⟨i, hi, rfl, g1⟩ | ⟨hbm, g1⟩
    · exact h1.lt _ _ g1
    · exact Nat.lt_of_lt_of_le (hh.lt _ _ g1) h3.size
  · -- boxes
    intro b x hx
    by_cases hbm : b ∈ m
    · obtain ⟨i, hi, rfl⟩ := mem_getD hbm
      rw [setAll_at _ _ _ _ hm (by simpa using hE') (fun b hb => by rw [← hh.mulen]; exact hml b hb) hi, List.getElem?_map, Option.map_eq_some_iff] at hx
      obtain ⟨y, hy, rfl⟩ := hx
      have h5 := h1.boxes i y hy
      have hby := hb' y (List.mem_of_getElem? hy)
      cases y with
      | hole => exact (Jmu i hi).trans h5
      | var u =>
        obtain ⟨blk, cs, ty, g1, g2, g3, g4⟩ := h5
        exact ⟨blk, cs, ty, (Jmu i hi).trans g1, g2, upA up g3 hby, g4⟩
      | row l sz =>
        obtain ⟨blk, cs, ty, g1, g2⟩ := h5
        exact ⟨blk, cs, ty, (Jmu i hi).trans g1, g2⟩
      | fz y =>
        obtain ⟨blk, cs, g1, g2⟩ := h5
        exact ⟨blk, cs, (Jmu i hi).trans g1, g2⟩
    · rw [setAll_out _ _ _ _ hbm] at hx
      have h5 := hh.boxes b x hx
      cases x with
      | hole => exact (Jmu' b hbm).trans h5
      | var u =>
        obtain ⟨blk, cs, ty, g1, g2, g3, g4⟩ := h5
        have hlt := hh.lt b blk g1
        have hno := other b blk hbm g1
        exact ⟨blk, cs, ty, (Jmu' b hbm).trans g1, by rw [h3.frame blk hlt hno]; exact g2, occA_le hle g3, fun o => (h3.newK blk o hlt hno).trans (g4 o)⟩
      | row l sz =>
        obtain ⟨blk, cs, ty, g1, g2, g3, g4, g5, g6⟩ := h5
        have hlt := hh.lt b blk g1
        have hno := other b blk hbm g1
        exact ⟨blk, cs, ty, (Jmu' b hbm).trans g1, by rw [h3.frame blk hlt hno]; exact g2, occL_mono hle.K g3, g4, g5, fun o => (h3.newK blk o hlt hno).trans (g6 o)⟩
      | fz y =>
        obtain ⟨blk, cs, g1, g2, g3⟩ := h5
        exact ⟨blk, cs, (Jmu' b hbm).trans g1, occ_mono hle.K g2, fun j u hj => hle.K _ _ _ (g3 j u hj)⟩
  · -- tok
    intro t tk n e1 e2
    rcases ctk t tk n e1 e2 with ⟨i, hi, rfl, g1, g2⟩ | ⟨htm, g1, g2⟩
    · have := h1.tok i tk n g1 g2
      unfold Tk.ok at this ⊢
      split
      · rename_i he
        simpa [he] using this
      · rename_i b o he
        simp only [he] at this
        refine ⟨this.1, this.2.1, fun hn => ?_⟩
        obtain ⟨c, ty, q1, q2, q3, q4⟩ := this.2.2 hn
        refine ⟨c, ty, q1, q2, q3, fun j ej => ?_⟩
        rcases cmu j b ej with ⟨i', hi', rfl, g3⟩ | ⟨hbm, g3⟩
        · exact q4 i' g3
        · exact other j b hbm g3 (h3.owns b (hh.lt _ _ g3) (.inr ⟨i, tk, n, o, g1, g2, he, hn⟩))
    · have := hh.tok t tk n g1 g2
      unfold Tk.ok at this ⊢
      split
      · rename_i he
        simpa [he] using this
      · rename_i b o he
        simp only [he] at this
        refine ⟨this.1, this.2.1, fun hn => ?_⟩
        obtain ⟨c, ty, q1, q2, q3, q4⟩ := this.2.2 hn
        have hlt : b < w.heap.size := (Array.getElem?_eq_some_iff.1 q1).1
        have hno := othert t tk n b o htm g1 g2 he hn
        refine ⟨c, ty, by rw [h3.frame b hlt hno]; exact q1, q2, fun j hj1 hj2 => (h3.newK b _ hlt hno).trans (q3 j hj1 hj2), fun j ej => ?_⟩
        rcases cmu j b ej with ⟨i', hi', rfl, g3⟩ | ⟨hbm, g3⟩
        · rcases h3.newmu i' b g3 with g4 | g4
          · exact hno (.inl ⟨i', g4⟩)
          · omega
        · exact q4 j g3
  · -- tokinj
    intro t t' tk tk' n n' b o o' hne e1 e2 e3 e4 e5 e6
    have key : ∀ (i : Nat) (tk : Tk) (n t' : Nat) (tk' : Tk) (n' b o o' : Nat), L'.tk[i]? = some tk → L'.k[i]? = some (some n) → t' ∉ mt → G.tk[t']? = some tk' → G.k[t']? = some (some n') → tk.base = some (b, o) → tk'.base = some (b, o') → n = tk.cap ∨ n' = tk'.cap := by
      intro i tk n t' tk' n' b o o' g1 g2 htm g3 g4 g5 g6
      have hok1 := h1.tok i tk n g1 g2
      have hok2 := hh.tok t' tk' n' g3 g4
      unfold Tk.ok at hok1 hok2
      simp only [g5] at hok1
      simp only [g6] at hok2
      by_cases c1 : n = tk.cap
      · exact .inl c1
      · by_cases c2 : n' = tk'.cap
        · exact .inr c2
        · exfalso
          have hn' : n' < tk'.cap := by omega
          obtain ⟨c, ty, q1, _⟩ := hok2.2.2 hn'
          have hlt : b < w.heap.size := (Array.getElem?_eq_some_iff.1 q1).1
          exact othert t' tk' n' b o' htm g3 g4 g6 hn' (h3.owns b hlt (.inr ⟨i, tk, n, o, g1, g2, g5, by omega⟩))
    rcases ctk t tk n e1 e3 with ⟨i, hi, rfl, g1, g2⟩ | ⟨htm, g1, g2⟩ <;> rcases ctk t' tk' n' e2 e4 with ⟨j, hj, rfl, g3, g4⟩ | ⟨htm', g3, g4⟩
    · exact h1.tokinj i j tk tk' n n' b o o' (fun e => hne (by rw [e])) g1 g3 g2 g4 e5 e6
    · exact key i tk n t' tk' n' b o o' g1 g2 htm' g3 g4 e5 e6
    · exact (key j tk' n' t tk n b o' o g3 g4 htm g1 g2 e6 e5).symm
    · exact hh.tokinj t t' tk tk' n n' b o o' hne g1 g3 g2 g4 e5 e6
  · -- k
    show setAll G.k mt L'.k = setAll G.k mt T'
    rw [h2]
  · -- owns
    intro blk hlt ho
    rcases ho with ⟨b, e⟩ | ⟨t, tk, n, o, e1, e2, e3, e4⟩
    · rcases cmu b blk e with ⟨i, hi, rfl, g1⟩ | ⟨hbm, g1⟩
      · exact hown _ (h3.owns blk hlt (.inl ⟨i, g1⟩))
      · exact .inl ⟨b, g1⟩
    · rcases ctk t tk n e1 e2 with ⟨i, hi, rfl, g1, g2⟩ | ⟨htm, g1, g2⟩
      · exact hown _ (h3.owns blk hlt (.inr ⟨i, tk, n, o, g1, g2, e3, e4⟩))
      · exact .inr ⟨t, tk, n, o, g1, g2, e3, e4⟩
  · -- newmu
    intro b blk e
    rcases cmu b blk e with ⟨i, hi, rfl, g1⟩ | ⟨hbm, g1⟩
    · rcases h3.newmu i blk g1 with g2 | g2
      · exact .inl (by rw [← Lmu i hi]; exact g2)
      · exact .inr g2
    · exact .inl g1
end
end Go.Am
