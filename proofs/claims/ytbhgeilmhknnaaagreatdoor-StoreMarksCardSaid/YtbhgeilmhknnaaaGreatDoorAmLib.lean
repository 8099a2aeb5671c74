/- The abstract machine, part 19: operations whose conditions are no closed facts, on lists of things that have a form as data. -/
import Derived.Test.YtbhgeilmhknnaaaGreatDoorAmZ
namespace Go.Am

/-! ### how a decompiled function is written -/
def Let {α β : Type} (v : α) (k : α → β) : β := k v
def Bnd {α β : Type} (o : Option α) (k : α → Option β) : Option β :=
  match o with
  | some x => k x
  | none => none
def Chk {β : Type} (c : Bool) (o : Option β) : Option β := bif c then o else none
theorem let_o {α β : Type} {v : α} {k : α → β} {r : β} (h : Let v k = r) : ∃ x, v = x ∧ k x = r := ⟨v, rfl, h⟩
theorem bnd_o {α β : Type} {o : Option α} {k : α → Option β} {r : β} (h : Bnd o k = some r) : ∃ x, o = some x ∧ k x = some r := by
  cases o with
  | none => cases h
  | some x => exact ⟨x, rfl, h⟩
theorem chk_o {β : Type} {c : Bool} {o : Option β} {r : β} (h : Chk c o = some r) : c = true ∧ o = some r := by
  cases c with
  | false => cases h
  | true => exact ⟨rfl, h⟩
theorem ite_t {α : Type} {c : Bool} {a b r : α} (h : (bif c then a else b) = r) (hc : c = true) : a = r := by
  subst hc; exact h
theorem ite_f {α : Type} {c : Bool} {a b r : α} (h : (bif c then a else b) = r) (hc : c = false) : b = r := by
  subst hc; exact h
theorem some_o {α : Type} {a r : α} (h : some a = some r) : a = r := Option.some.inj h

/-! ### the conditions -/
def inR (n : Int) (l : Nat) : Bool := decide (0 ≤ n ∧ n < (l : Int))
def gt {α : Type} [Inhabited α] (l : List α) (n : Int) : α := l.getD n.toNat default
def bt (l : List UInt8) (n : Int) : Int := (l.getD n.toNat 0).toNat
def catOK (a b : List UInt8) : Bool := decide (a.length + b.length ≤ 9223372036854775807)
def appOK (n m by_ : Nat) : Bool := decide ((n + m) * by_ ≤ 140737488355328)
def hiOK (n : Int) (l : Nat) : Bool := decide (0 ≤ n ∧ n ≤ (l : Int))
/-- l[a:b] -/
def cut {α : Type} (l : List α) (a b : Int) : List α := (l.take b.toNat).drop a.toNat

theorem inside_ok {n : Int} {l : Nat} (h : inR n l = true) : inside n l = some n.toNat ∧ n.toNat < l := by
  simp only [inR, decide_eq_true_eq] at h
  unfold inside
  rw [if_pos h]
  exact ⟨rfl, by omega⟩
theorem getD_some {α : Type} {l : List α} {i : Nat} (h : i < l.length) (d : α) : l[i]? = some (l.getD i d) := by
  rw [List.getElem?_eq_getElem h, List.getD_eq_getElem?_getD, List.getElem?_eq_getElem h]
  rfl
theorem map_get {α : Type} [Inhabited α] (f : α → D) {l : List α} {n : Int} (h : n.toNat < l.length) : (l.map f)[n.toNat]? = some (f (gt l n)) := by
  rw [List.getElem?_map, getD_some h default]
  rfl
theorem all_size {α : Type} {f : α → D} {sz : Nat} (hf : ∀ x, (f x).size = sz) (l : List α) : ((l.map f).all fun y => y.size == sz) = true := by
  simp [hf]

section
variable {P : Program} {α : Type}
/-! ### lengths -/
theorem len_d {t e : Nat} {f : α → D} {l : List α} (h : P.underlying t = some (.slice e)) : (evLen P t (.d (.sl (l.map f)))).map OR.val = some (.val (.d (.int .i64 l.length))) := by
  simp [evLen, h, AV.items]
theorem len_full {t e : Nat} {f : α → D} {l : List α} (h : P.underlying t = some (.slice e)) : (evLen P t (.full (l.map f))).map OR.val = some (.val (.d (.int .i64 l.length))) := by
  simp [evLen, h, AV.items]
theorem len_own {t e u : Nat} {f : α → D} {l : List α} (h : P.underlying t = some (.slice e)) : (evLen P t (.own (l.map f) u)).map OR.val = some (.val (.d (.int .i64 l.length))) := by
  simp [evLen, h, AV.items]
theorem cap_full {t e : Nat} {f : α → D} {l : List α} (h : P.underlying t = some (.slice e)) : (evCap P t (.full (l.map f))).map OR.val = some (.val (.d (.int .i64 l.length))) := by
  simp [evCap, h]
/-! ### a byte of a text -/
theorem idx_str {t : Nat} {k : IntKind} {l : List UInt8} {n : Int} (h : P.underlying t = some .string) (hn : inR n l.length = true) : (evIndex P t (.d (.str l)) (.d (.int k n))).map OR.val = some (.val (.d (.int .u8 (bt l n)))) := by
  obtain ⟨h1, h2⟩ := inside_ok hn
  simp only [evIndex, h, h1, Option.bind_some, getD_some h2 0, Option.map_some, bt]
/-! ### a place of a slice -/
theorem idx_d [Inhabited α] {t s : Nat} {b : Bool} {by_ : Nat} {k : IntKind} {f : α → D} {l : List α} {n : Int} (h : sle P t = some (s, b, by_)) (hs : ∀ x, (f x).size = s) (hn : inR n l.length = true) :
    (evIndexAddr P t (.d (.sl (l.map f))) (.d (.int k n))).map OR.val = some (.val (.kp (f (gt l n)))) := by
  obtain ⟨h1, h2⟩ := inside_ok hn
  have h3 := map_get f h2
  simp only [evIndexAddr, AV.items, h, List.length_map, h1, Option.bind_some, h3, hs, if_pos, Option.map_some]
theorem idx_full [Inhabited α] {t s : Nat} {b : Bool} {by_ : Nat} {k : IntKind} {f : α → D} {l : List α} {n : Int} (h : sle P t = some (s, b, by_)) (hs : ∀ x, (f x).size = s) (hn : inR n l.length = true) :
    (evIndexAddr P t (.full (l.map f)) (.d (.int k n))).map OR.val = some (.val (.kp (f (gt l n)))) := by
  obtain ⟨h1, h2⟩ := inside_ok hn
  have h3 := map_get f h2
  simp only [evIndexAddr, AV.items, h, List.length_map, h1, Option.bind_some, h3, hs, if_pos, Option.map_some]
theorem idx_own [Inhabited α] {t s u : Nat} {b : Bool} {by_ : Nat} {k : IntKind} {f : α → D} {l : List α} {n : Int} (h : sle P t = some (s, b, by_)) (hs : ∀ x, (f x).size = s) (hn : inR n l.length = true) :
    (evIndexAddr P t (.own (l.map f) u) (.d (.int k n))).map OR.val = some (.val (.kp (f (gt l n)))) := by
  obtain ⟨h1, h2⟩ := inside_ok hn
  have h3 := map_get f h2
  simp only [evIndexAddr, AV.items, h, List.length_map, h1, Option.bind_some, h3, hs, if_pos, Option.map_some]
theorem idx_msl {t s : Nat} {b : Bool} {by_ : Nat} {k : IntKind} {n : Int} {x m : Nat} (h : sle P t = some (s, b, by_)) (hn : inR n m = true) :
    (evIndexAddr P t (.msl x m) (.d (.int k n))).map OR.val = some (.val (.eptr x n.toNat s)) := by
  obtain ⟨h1, h2⟩ := inside_ok hn
  simp [evIndexAddr, h, h1]
/-! ### append -/
theorem app_full {t tx s by_ : Nat} {b b' : Bool} {s' y' : Nat} {f : α → D} {l m : List α} {v : AV} {k : List (Option Nat)} {nk : Nat} (hz : ezero P t = true) (h : sle P t = some (s, b, by_)) (h' : sle P tx = some (s', b', y')) (hb : 0 < by_) (hs : ∀ x, (f x).size = s)
    (hv : v.items = some (m.map f)) (hk : k[nk]? = some none) (hc : appOK l.length m.length by_ = true) :
    evBuiltin P .append [t, tx] [.full (l.map f), v] k nk = some (.tok nk (l ++ m).length (.own ((l ++ m).map f) nk)) := by
  simp only [appOK, decide_eq_true_eq] at hc
  simp only [evBuiltin, hz, if_pos, evApp, h, h', hv, List.length_map]
  rw [if_pos ⟨hb, hc, hk, all_size hs l, all_size hs m⟩, List.map_append, List.length_append]
theorem app_own {t tx s by_ u : Nat} {b b' : Bool} {s' y' : Nat} {f : α → D} {l m : List α} {v : AV} {k : List (Option Nat)} {nk : Nat} (hz : ezero P t = true) (h : sle P t = some (s, b, by_)) (h' : sle P tx = some (s', b', y')) (hb : 0 < by_) (hs : ∀ x, (f x).size = s)
    (hv : v.items = some (m.map f)) (hk : k[u]? = some (some l.length)) (hc : appOK l.length m.length by_ = true) :
    evBuiltin P .append [t, tx] [.own (l.map f) u, v] k nk = some (.tok u (l ++ m).length (.own ((l ++ m).map f) u)) := by
  simp only [appOK, decide_eq_true_eq] at hc
  simp only [evBuiltin, hz, if_pos, evApp, h, h', hv, List.length_map]
  rw [if_pos ⟨hb, hc, hk, all_size hs l, all_size hs m⟩, List.map_append, List.length_append]
/-! ### texts one behind the other -/
theorem cat_str {t : Nat} {c : Bool} {a b : List UInt8} (h : catOK a b = true) : (evBin P .add t c (.d (.str a)) (.d (.str b))).map OR.val = some (.val (.d (.str (a ++ b)))) := by
  simp only [catOK, decide_eq_true_eq] at h
  simp only [evBin]
  rw [if_pos h]
  rfl
/-! ### parts -/
theorem bound_some {k : IntKind} {n : Int} {d hi : Nat} (h : hiOK n hi = true) : bound (some (.d (.int k n))) d hi = some n.toNat := by
  simp only [hiOK, decide_eq_true_eq] at h
  simp only [bound]
  rw [if_pos h]
theorem sub_str {t : Nat} {h : List Box} {k k' : IntKind} {l : List UInt8} {a b : Int} (ht : P.underlying t = some .string) (h1 : hiOK b l.length = true) (h2 : hiOK a b.toNat = true) :
    evSlice P t (.d (.str l)) (some (.d (.int k a))) (some (.d (.int k' b))) none h = some (.val (.d (.str (cut l a b)))) := by
  simp only [evSlice, ht, bound_some h1, Option.bind_some, bound_some h2, Option.map_some, cut]
theorem sub_str_lo {t : Nat} {h : List Box} {k : IntKind} {l : List UInt8} {a : Int} (ht : P.underlying t = some .string) (h2 : hiOK a l.length = true) :
    evSlice P t (.d (.str l)) (some (.d (.int k a))) none none h = some (.val (.d (.str (l.drop a.toNat)))) := by
  simp only [evSlice, ht, bound, Option.bind_some]
  have := bound_some (k := k) (d := 0) h2
  simp only [bound] at this
  rw [this]
  simp
theorem sub_str_hi {t : Nat} {h : List Box} {k : IntKind} {l : List UInt8} {b : Int} (ht : P.underlying t = some .string) (h1 : hiOK b l.length = true) :
    evSlice P t (.d (.str l)) none (some (.d (.int k b))) none h = some (.val (.d (.str (l.take b.toNat)))) := by
  simp only [evSlice, ht, bound_some h1, Option.bind_some]
  rw [show bound none 0 b.toNat = some 0 from rfl]
  rfl
theorem sub_d {t s : Nat} {g : Bool} {y : Nat} {h : List Box} {k k' : IntKind} {f : α → D} {l : List α} {a b : Int} (ht : sle P t = some (s, g, y)) (hs : ∀ x, (f x).size = s) (h1 : hiOK b l.length = true) (h2 : hiOK a b.toNat = true) :
    evSlice P t (.d (.sl (l.map f))) (some (.d (.int k a))) (some (.d (.int k' b))) none h = some (.val (.d (.sl ((cut l a b).map f)))) := by
  simp only [evSlice, AV.items, ht, all_size hs l, if_pos, List.length_map, bound_some h1, Option.bind_some, bound_some h2, Option.map_some, cut, List.map_drop, List.map_take]
theorem sub_d_lo {t s : Nat} {g : Bool} {y : Nat} {h : List Box} {k : IntKind} {f : α → D} {l : List α} {a : Int} (ht : sle P t = some (s, g, y)) (hs : ∀ x, (f x).size = s) (h2 : hiOK a l.length = true) :
    evSlice P t (.d (.sl (l.map f))) (some (.d (.int k a))) none none h = some (.val (.d (.sl ((l.drop a.toNat).map f)))) := by
  have h3 : bound (some (.d (.int k a))) 0 (l.map f).length = some a.toNat := bound_some (by rw [List.length_map]; exact h2)
  simp only [evSlice, AV.items, ht, all_size hs l, if_pos]
  rw [show bound none (l.map f).length (l.map f).length = some (l.map f).length from rfl]
  simp only [Option.bind_some, h3, Option.map_some]
  rw [List.take_length, List.map_drop]
theorem sub_d_hi {t s : Nat} {g : Bool} {y : Nat} {h : List Box} {k : IntKind} {f : α → D} {l : List α} {b : Int} (ht : sle P t = some (s, g, y)) (hs : ∀ x, (f x).size = s) (h1 : hiOK b l.length = true) :
    evSlice P t (.d (.sl (l.map f))) none (some (.d (.int k b))) none h = some (.val (.d (.sl ((l.take b.toNat).map f)))) := by
  have h3 : bound (some (.d (.int k b))) (l.map f).length (l.map f).length = some b.toNat := bound_some (by rw [List.length_map]; exact h1)
  simp only [evSlice, AV.items, ht, all_size hs l, if_pos, h3, Option.bind_some]
  rw [show bound none 0 b.toNat = some 0 from rfl]
  simp only [Option.map_some, List.drop_zero, List.map_take]
end
end Go.Am
