/- The abstract machine, part 6: more operations that only compute. -/
import Derived.Test.YtbhgeilmhknnaaaGreatDoorAmPure
namespace Go.Am
section
variable {P : Program} {G : Gh} {h : List Box} {w : World}

def evUn (op : UnOp) (x : AV) : Option AV :=
  match op, x with
  | .not, .d (.bool b) => some (.d (.bool (!b)))
  | _, _ => none
theorem un_okay {op : UnOp} {x v : AV} {c : Value} (hx : OccV G x c) (e : evUn op x = some v) : ∃ u, (Op.unary op c).run P w = .ok u w ∧ OccV G v u := by
  unfold evUn at e
  split at e
  · cases e
    rw [occV_bool hx]
    exact ⟨_, rfl, occV_of_bool _⟩
  · cases e

def evPick (c a b : AV) : Option AV :=
  match c with
  | .d (.bool true) => some a
  | .d (.bool false) => some b
  | _ => none
theorem pick_okay {x a b v : AV} {c ca cb : Value} (hx : OccV G x c) (ha : OccV G a ca) (hb : OccV G b cb) (e : evPick x a b = some v) :
    ∃ t, c = .bool t ∧ OccV G v (if t = true then ca else cb) := by
  unfold evPick at e
  split at e
  · cases e
    exact ⟨true, occV_bool hx, ha⟩
  · cases e
    exact ⟨false, occV_bool hx, hb⟩
  · cases e

def evNil (x : AV) : Option AV :=
  match x with
  | .ptr _ _ | .eptr _ _ _ | .kp _ | .fn _ _ => some x
  | _ => none

def evField (P : Program) (t : TypeId) (x : AV) (i : Nat) : Option AV :=
  match fld P t i with
  | some (o, s, a) => if x.isAgg = true then x.at_ o s a else none
  | none => none
theorem fld_spec {t : TypeId} {i o s : Nat} {a : Bool} (h : fld P t i = some (o, s, a)) : ∃ fs f, P.underlying t = some (.struct fs) ∧ fs[i]? = some f ∧ f.offset = o ∧ lay P f.type = some (s, a) ∧ s ≠ 0 := by
  unfold fld at h
  split at h
  · rename_i fs hu
    split at h
    · rename_i f hf
      split at h
      · rename_i s' a' hl
        split at h
        · cases h
        · rename_i hs
          simp only [Option.some.injEq, Prod.mk.injEq] at h
          obtain ⟨rfl, rfl, rfl⟩ := h
          exact ⟨fs, f, hu, hf, rfl, hl, hs⟩
      · cases h
    · cases h
  · cases h
theorem occV_aggA {v : AV} {c : Value} (h : OccV G v c) (ha : v.isAgg = true) : ∃ cs, c = .agg cs.toArray ∧ OccA G v cs := by
  cases h with
  | any => cases ha
  | one h1 _ => rw [ha] at h1; cases h1
  | agg _ h => exact ⟨_, rfl, h⟩
  | tup _ => cases ha
theorem partA_ok {t : TypeId} {s : Nat} {a : Bool} {v : AV} {xs : Array Value} {off : Nat} {cs : List Value} (hl : lay P t = some (s, a)) (hx : OccA G v cs) (hs : v.size = s) (ha : v.isAgg = a) (hc : cs = (xs.toList.drop off).take s) :
    ∃ u, (part t xs off).run P w = .ok u w ∧ OccV G v u := by
  obtain ⟨h1, h2⟩ := lay_spec hl w
  cases a with
  | true =>
    refine ⟨.agg cs.toArray, ?_, .agg ha hx⟩
    simp only [part, Sem.run_bind, h1, h2, Result.andThen_ok, if_true, Sem.run_pure]
    congr 2
    apply Array.ext'
    rw [hc]
    simp [Array.toList_extract]
  | false =>
    have hn := (occA_size hx).1
    obtain ⟨c, rfl⟩ : ∃ c, cs = [c] := by
      cases hx with
      | d hx => exact occ_leaf hx (by simpa [AV.isAgg] using ha)
      | agg _ => cases ha
      | _ => exact ⟨_, rfl⟩
    have h3 : xs[off]? = some c := by
      have := congrArg (fun l : List Value => l[0]?) hc
      simp only [List.getElem?_cons_zero] at this
      rw [List.getElem?_take, List.getElem?_drop] at this
      simp only [List.length_singleton] at hn
      rw [if_pos (by omega), Nat.add_zero] at this
      simpa using this.symm
    exact ⟨c, by simp [part, h2, h3], .one ha hx⟩
theorem field_okay {t : TypeId} {i : Nat} {x v : AV} {c : Value} (hx : OccV G x c) (e : evField P t x i = some v) : ∃ u, (Instr.field t c i).run P w = .ok u w ∧ OccV G v u := by
  unfold evField at e
  split at e
  · rename_i o s a hf
    obtain ⟨fs, f, hu, hi, ho, hl, _⟩ := fld_spec hf
    split at e
    · rename_i ha
      obtain ⟨cs, rfl, hcs⟩ := occV_aggA hx ha
      obtain ⟨g1, g2, g3, _⟩ := occA_at x hcs e
      obtain ⟨u, h1, h2⟩ := partA_ok (P := P) (w := w) (xs := cs.toArray) (off := o) hl g1 g2 g3 (by simp)
      exact ⟨u, by simp [Instr.field, run_underlying hu, hi, asAgg, ho, h1], h2⟩
    · cases e
  · cases e

/-- An index that lies in. -/
def inside (n : Int) (len : Nat) : Option Nat := if 0 ≤ n ∧ n < (len : Int) then some n.toNat else none
theorem inside_spec {n : Int} {len i : Nat} (h : inside n len = some i) : 0 ≤ n ∧ n < (len : Int) ∧ i = n.toNat ∧ i < len := by
  unfold inside at h
  split at h
  · rename_i hc
    injection h with h
    exact ⟨hc.1, hc.2, h.symm, by omega⟩
  · cases h

def evIndex (P : Program) (t : TypeId) (x i : AV) : Option AV :=
  match i with
  | .d (.int _ n) =>
    match x with
    | .d (.str l) => match P.underlying t with
      | some .string => (inside n l.length).bind fun j => (l[j]?).map fun b => .d (.int .u8 b.toNat)
      | _ => none
    | x => match arr P t with
      | some (m, s, a) => if x.isAgg = true then (inside n m).bind fun j => x.at_ (j * s) s a else none
      | none => none
  | _ => none
theorem arr_spec {t : TypeId} {m s : Nat} {a : Bool} (h : arr P t = some (m, s, a)) : ∃ e, P.underlying t = some (.array m e) ∧ lay P e = some (s, a) := by
  unfold arr at h
  split at h
  · rename_i n e hu
    obtain ⟨p, hp, h⟩ := Option.map_eq_some_iff.1 h
    simp only [Prod.mk.injEq] at h
    obtain ⟨rfl, rfl, rfl⟩ := h
    exact ⟨e, hu, hp⟩
  · cases h
theorem index_okay {t : TypeId} {x i v : AV} {c ci : Value} (hx : OccV G x c) (hi : OccV G i ci) (e : evIndex P t x i = some v) : ∃ u, (Instr.index t c ci).run P w = .ok u w ∧ OccV G v u := by
  unfold evIndex at e
  split at e
  · rename_i k n
    rw [occV_int hi]
    split at e
    · rename_i l
      rw [occV_str hx]
      split at e
      · rename_i hu
        obtain ⟨j, hj, e⟩ := Option.bind_eq_some_iff.1 e
        obtain ⟨b, hb, rfl⟩ := Option.map_eq_some_iff.1 e
        obtain ⟨h0, h1, rfl, h2⟩ := inside_spec hj
        refine ⟨_, ?_, occV_of_int _ _⟩
        have h3 : (ByteArray.mk l.toArray)[n.toNat]? = some b := by
          have hlt : n.toNat < (ByteArray.mk l.toArray).size := by show n.toNat < l.toArray.size; simpa using h2
          rw [ByteArray.getElem?_lt' _ _ hlt]
          congr 1
          have : (ByteArray.mk l.toArray)[n.toNat] = l.toArray[n.toNat]'(by simpa using h2) := rfl
          rw [this, List.getElem_toArray]
          rw [List.getElem?_eq_getElem h2] at hb
          injection hb
        simp [Instr.index, asIntOf, run_underlying hu, h0, h3]
      · cases e
    · split at e
      · rename_i m s a ha
        split at e
        · rename_i hag
          obtain ⟨el, hu, hl⟩ := arr_spec ha
          obtain ⟨j, hj, e⟩ := Option.bind_eq_some_iff.1 e
          obtain ⟨h0, h1, rfl, h2⟩ := inside_spec hj
          obtain ⟨cs, rfl, hcs⟩ := occV_aggA hx hag
          obtain ⟨g1, g2, g3, _⟩ := occA_at x hcs e
          obtain ⟨u, k1, k2⟩ := partA_ok (P := P) (w := w) (xs := cs.toArray) (off := n.toNat * s) hl g1 g2 g3 (by simp)
          refine ⟨u, ?_, k2⟩
          have hs := (lay_spec hl w).1
          simp [Instr.index, asIntOf, run_underlying hu, h0, h1, hs, k1]
        · cases e
      · cases e
  · cases e

def evFieldAddr (P : Program) (t : TypeId) (a : AV) (i : Nat) : Option AV :=
  match fld P t i with
  | some (o, s, ag) => match a with
    | .ptr b off => some (.ptr b (off + o))
    | .kp x => (x.at_ o s ag).map .kp
    | _ => none
  | none => none
theorem add_lit (b o n : Nat) : (⟨b, o, none⟩ : Addr).add n = ⟨b, o + n, none⟩ := by unfold Addr.add; split <;> simp_all
theorem fieldAddr_okay {t : TypeId} {i : Nat} {x v : AV} {c : Value} (hx : OccV G x c) (e : evFieldAddr P t x i = some v) : ∃ u, (Instr.fieldAt t c i).run P w = .ok u w ∧ OccV G v u := by
  unfold evFieldAddr at e
  split at e
  · rename_i o s ag hf
    obtain ⟨fs, f, hu, hi, rfl, hl, hs⟩ := fld_spec hf
    have hsz := (lay_spec hl w).1
    split at e
    · rename_i b off
      cases e
      cases occV_leaf hx rfl rfl with
      | ptr hmu =>
        refine ⟨_, ?_, .one rfl (.ptr hmu)⟩
        simp [Instr.fieldAt, run_underlying hu, hi, Instr.sureAddr, fieldPlace, hsz, hs, add_lit]
    · rename_i y
      obtain ⟨z, hz, rfl⟩ := Option.map_eq_some_iff.1 e
      cases occV_leaf hx rfl rfl with
      | kp hy hk =>
        rename_i b off cs
        obtain ⟨g1, g2, g3, g4⟩ := occ_at y hy hz
        refine ⟨.pointer (some ⟨b, off + f.offset, none⟩), ?_, .one rfl (.kp g1 (fun j u hj => ?_))⟩
        · simp [Instr.fieldAt, run_underlying hu, hi, Instr.sureAddr, fieldPlace, hsz, hs, add_lit]
        · rw [List.getElem?_take, List.getElem?_drop] at hj
          split at hj
          · rw [Nat.add_assoc]; exact hk _ _ hj
          · cases hj
    · cases e
  · cases e

/-- A slice's elements. -/
def AV.items : AV → Option (List D)
  | .d (.sl l) => some l
  | .full l => some l
  | .own l _ => some l
  | _ => none
theorem items_spec {x : AV} {l : List D} {c : Value} (hx : OccV G x c) (e : x.items = some l) : Occ G.K (.sl l) [c] := by
  unfold AV.items at e
  split at e <;> try cases e
  · cases occV_leaf hx rfl rfl with
    | d h => exact h
  · have := occA_toD _ (occV_leaf hx rfl rfl) rfl
    exact this
  · have := occA_toD _ (occV_leaf hx rfl rfl) rfl
    exact this
/-- What is behind a slice with data of one size. -/
theorem slice_spec {K : Kn} {l : List D} {c : Value} (h : Occ K (.sl l) [c]) : (l = [] ∧ c = .slice none 0 0) ∨ ∃ b o cap sz, c = .slice (some ⟨b, o, none⟩) l.length cap ∧ l.length ≤ cap ∧ 0 < sz ∧ OccR K l b o sz := by
  cases h with
  | nils => exact .inl ⟨rfl, rfl⟩
  | sl hsz hc h => exact .inr ⟨_, _, _, _, rfl, hc, hsz, h⟩

def evIndexAddr (P : Program) (t : TypeId) (x i : AV) : Option AV :=
  match i with
  | .d (.int _ n) =>
    match x with
    | .ptr b off => match arr P t with
      | some (m, s, _) => (inside n m).map fun j => .ptr b (off + j * s)
      | none => none
    | .msl b m => match sle P t with
      | some (s, _, _) => (inside n m).map fun j => .eptr b j s
      | none => none
    | .ptrs l => match sle P t with
      | some (1, _, _) => (inside n l.length).bind fun j => (l[j]?).map fun p => .kpp p.1 p.2
      | _ => none
    | .kp (.agg l) => match arr P t with
      | some (m, s, a) => (inside n m).bind fun j => (D.at_ (.agg l) (j * s) s a).map .kp
      | none => none
    | x => match x.items, sle P t with
      | some l, some (s, _, _) => (inside n l.length).bind fun j => (l[j]?).bind fun y => if y.size = s then some (.kp y) else none
      | _, _ => none
  | _ => none
theorem sle_spec {t : TypeId} {s by_ : Nat} {a : Bool} (h : sle P t = some (s, a, by_)) : ∃ e, P.underlying t = some (.slice e) ∧ lay P e = some (s, a) ∧ s ≠ 0 ∧ P.bytesOf e = by_ := by
  unfold sle at h
  split at h
  · rename_i e hu
    obtain ⟨p, hp, h⟩ := Option.bind_eq_some_iff.1 h
    split at h
    · cases h
    · rename_i hs
      simp only [Option.some.injEq, Prod.mk.injEq] at h
      obtain ⟨rfl, rfl, rfl⟩ := h
      exact ⟨e, hu, hp, hs, rfl⟩
  · cases h
theorem indexAddr_okay {t : TypeId} {x i v : AV} {c ci : Value} (hx : OccV G x c) (hi : OccV G i ci) (e : evIndexAddr P t x i = some v) : ∃ u, (Instr.indexAt t c ci).run P w = .ok u w ∧ OccV G v u := by
  unfold evIndexAddr at e
  split at e
  · rename_i k n
    rw [occV_int hi]
    split at e
    · rename_i b off
      split at e
      · rename_i m s a ha
        obtain ⟨el, hu, hl⟩ := arr_spec ha
        obtain ⟨j, hj, rfl⟩ := Option.map_eq_some_iff.1 e
        obtain ⟨h0, h1, rfl, h2⟩ := inside_spec hj
        have hs := (lay_spec hl w).1
        cases occV_leaf hx rfl rfl with
        | ptr hmu =>
          refine ⟨_, ?_, .one rfl (.ptr hmu)⟩
          simp [Instr.indexAt, asIntOf, run_underlying hu, Instr.sureAddr, h0, h1, hs, add_lit]
      · cases e
    · rename_i b m
      split at e
      · rename_i s a by_ ha
        obtain ⟨el, hu, hl, _, _⟩ := sle_spec ha
        obtain ⟨j, hj, rfl⟩ := Option.map_eq_some_iff.1 e
        obtain ⟨h0, h1, rfl, h2⟩ := inside_spec hj
        have hs := (lay_spec hl w).1
        cases occV_leaf hx rfl rfl with
        | msl hmu =>
          refine ⟨_, ?_, .one rfl (.eptr hmu)⟩
          simp [Instr.indexAt, asIntOf, run_underlying hu, h0, h1, hs, add_lit]
      · cases e
    · rename_i l
      split at e
      · rename_i a by_ ha
        obtain ⟨el, hu, hl, _, _⟩ := sle_spec ha
        obtain ⟨j, hj, e⟩ := Option.bind_eq_some_iff.1 e
        obtain ⟨p, hp, rfl⟩ := Option.map_eq_some_iff.1 e
        obtain ⟨h0, h1, rfl, h2⟩ := inside_spec hj
        have hs := (lay_spec hl w).1
        cases occV_leaf hx rfl rfl with
        | ptrs hps =>
          rename_i b o
          obtain ⟨blk, g1, g2⟩ := hps _ p hp
          refine ⟨.pointer (some ⟨b, o + n.toNat, none⟩), ?_, .one rfl (.kpp g1 g2)⟩
          simp [Instr.indexAt, asIntOf, run_underlying hu, h0, h1, hs, add_lit]
      · cases e
    · rename_i l
      split at e
      · rename_i m s a ha
        obtain ⟨el, hu, hl⟩ := arr_spec ha
        obtain ⟨j, hj, e⟩ := Option.bind_eq_some_iff.1 e
        obtain ⟨z, hz, rfl⟩ := Option.map_eq_some_iff.1 e
        obtain ⟨h0, h1, rfl, h2⟩ := inside_spec hj
        have hs := (lay_spec hl w).1
        cases occV_leaf hx rfl rfl with
        | kp hy hk =>
          rename_i b off cs
          obtain ⟨g1, g2, g3, g4⟩ := occ_at _ hy hz
          refine ⟨.pointer (some ⟨b, off + n.toNat * s, none⟩), ?_, .one rfl (.kp g1 (fun j u hj => ?_))⟩
          · simp [Instr.indexAt, asIntOf, run_underlying hu, Instr.sureAddr, h0, h1, hs, add_lit]
          · rw [List.getElem?_take, List.getElem?_drop] at hj
            split at hj
            · rw [Nat.add_assoc]; exact hk _ _ hj
            · cases hj
      · cases e
    · split at e
      · rename_i l s a by_ hl0 ha
        obtain ⟨el, hu, hl, _, _⟩ := sle_spec ha
        obtain ⟨j, hj, e⟩ := Option.bind_eq_some_iff.1 e
        obtain ⟨y, hy, e⟩ := Option.bind_eq_some_iff.1 e
        split at e
        · rename_i hys
          cases e
          obtain ⟨h0, h1, rfl, h2⟩ := inside_spec hj
          have hs := (lay_spec hl w).1
          rcases slice_spec (items_spec hx hl0) with ⟨rfl, rfl⟩ | ⟨b, o, cap, sz, rfl, _, _, hr⟩
          · simp at h2
          · obtain ⟨cs, g1, g2, g3⟩ := occR_get hr hy
            have hsz : sz = s := by rw [← g2, (occ_size g1).1, hys]
            subst hsz
            refine ⟨.pointer (some ⟨b, o + n.toNat * sz, none⟩), ?_, .one rfl (.kp g1 g3)⟩
            simp [Instr.indexAt, asIntOf, run_underlying hu, h0, h1, hs, add_lit]
        · cases e
      · cases e
  · cases e

def evExtract (x : AV) (i : Nat) : Option AV :=
  match x with
  | .tup l => l[i]?
  | _ => none
theorem occVL_get : ∀ {l : List AV} {vs : List Value}, OccVL G l vs → ∀ {i : Nat} {x : AV}, l[i]? = some x → ∃ v, vs[i]? = some v ∧ OccV G x v
  | _, _, .nil, i, x, e => by simp at e
  | _, _, .cons h t, 0, x, e => by
    simp only [List.getElem?_cons_zero, Option.some.injEq] at e
    subst e
    exact ⟨_, rfl, h⟩
  | _, _, .cons h t, i + 1, x, e => by
    obtain ⟨v, h1, h2⟩ := occVL_get t (i := i) (by simpa using e)
    exact ⟨v, by simpa using h1, h2⟩
theorem extract_okay {x v : AV} {i : Nat} {c : Value} (hx : OccV G x c) (e : evExtract x i = some v) : ∃ u, (Instr.extract c i).run P w = .ok u w ∧ OccV G v u := by
  unfold evExtract at e
  split at e
  · cases hx with
    | one h1 h => cases h
    | agg h1 h => cases h1
    | tup h =>
      obtain ⟨u, h1, h2⟩ := occVL_get h e
      exact ⟨u, by simp [Instr.extract, h1], h2⟩
  · cases e

def evLen (P : Program) (t : TypeId) (x : AV) : Option AV :=
  match P.underlying t with
  | some .string => match x with
    | .d (.str l) => some (.d (.int .i64 l.length))
    | _ => none
  | some (.slice _) => match x with
    | .msl _ n => some (.d (.int .i64 n))
    | .ptrs l => some (.d (.int .i64 l.length))
    | x => (x.items).map fun l => .d (.int .i64 l.length)
  | some (.array n _) => some (.d (.int .i64 n))
  | _ => none
theorem len_okay {t ty : TypeId} {x v : AV} {c : Value} (hx : OccV G x c) (e : evLen P t x = some v) : ∃ u, (Builtin.len_ #[t] ty #[c]).run P w = .ok u w ∧ OccV G v u := by
  unfold evLen at e
  split at e
  · rename_i hu
    split at e
    · cases e
      rw [occV_str hx]
      refine ⟨_, ?_, occV_of_int _ _⟩
      simp [Builtin.len_, run_underlying hu, goInt]
      rfl
    · cases e
  · rename_i el hu
    split at e
    · rename_i b n
      cases e
      cases occV_leaf hx rfl rfl with
      | msl hmu => exact ⟨_, by simp [Builtin.len_, run_underlying hu, goInt], occV_of_int _ _⟩
    · rename_i l
      cases e
      cases occV_leaf hx rfl rfl with
      | ptrs hmu => exact ⟨_, by simp [Builtin.len_, run_underlying hu, goInt], occV_of_int _ _⟩
    · obtain ⟨l, hl, rfl⟩ := Option.map_eq_some_iff.1 e
      rcases slice_spec (items_spec hx hl) with ⟨rfl, rfl⟩ | ⟨b, o, cap, sz, rfl, _, _, hr⟩
      · exact ⟨_, by simp [Builtin.len_, run_underlying hu, goInt], occV_of_int _ _⟩
      · exact ⟨_, by simp [Builtin.len_, run_underlying hu, goInt], occV_of_int _ _⟩
  · rename_i n el hu
    cases e
    refine ⟨_, ?_, occV_of_int _ _⟩
    cases c <;> simp [Builtin.len_, run_underlying hu, goInt]
  · cases e
end
end Go.Am
