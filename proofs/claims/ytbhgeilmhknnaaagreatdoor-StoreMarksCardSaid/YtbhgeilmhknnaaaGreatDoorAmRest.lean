/- The abstract machine, part 9: make, slices of what there is, conversions; and all operations together. -/
import Derived.Test.YtbhgeilmhknnaaaGreatDoorAmGrow
import Derived.IntWalk
namespace Go.Am
section
variable {P : Program} {G : Gh} {h : List Box} {w : World}

/-! ### make -/
def evMake (P : Program) (Z : Zeros P) (t : TypeId) (a b : AV) (h : List Box) (nb : Nat) : Option OR :=
  match P.underlying t, a, b, h[nb]? with
  | some (.slice e), .d (.int _ n), .d (.int _ m), some .hole =>
    match lay P e, Z.z e with
    | some (sz, _), some (.d z) =>
      if n = m ∧ 0 ≤ n ∧ n ≤ 140737488355328 ∧ (P.bytesOf e : Int) * n ≤ 281474976710656 ∧ z.size = sz ∧ sz ≠ 0 then some (.box nb (.row (List.replicate n.toNat z) sz) (.msl nb n.toNat)) else none
    | _, _ => none
  | _, _, _, _ => none

theorem rep_cells {K : Kn} {z : D} {zc : Array Value} (hz : Occ K z zc.toList) (h0 : 0 < zc.size) : ∀ a : Nat, OccL K (List.replicate a z) ((List.range (a * zc.size)).map fun i => zc[i % zc.size]!)
  | 0 => by simp; exact .nil
  | a + 1 => by
    rw [List.replicate_succ', Nat.succ_mul, List.range_add, List.map_append]
    refine occL_append (rep_cells hz h0 a) ?_
    have : (List.map (fun i => zc[i % zc.size]!) (List.map (fun x => a * zc.size + x) (List.range zc.size))) = zc.toList ++ [] := by
      apply List.ext_getElem?
      intro i
      rw [List.append_nil, List.getElem?_map, List.getElem?_map]
      by_cases hi : i < zc.size
      · rw [List.getElem?_range hi]
        have hmod : (a * zc.size + i) % zc.size = i := by
          rw [Nat.mul_comm, Nat.mul_add_mod, Nat.mod_eq_of_lt hi]
        simp [hmod, hi]
      · rw [List.getElem?_eq_none (by simpa using hi), List.getElem?_eq_none (by simpa using hi)]
        rfl
    rw [this]
    exact .cons hz .nil

theorem make_okay {Z : Zeros P} {t : TypeId} {a b : AV} {ca cb : Value} {nb : Nat} {r : OR} (hh : HeapOK G h w) (ha : OccV G a ca) (hb : OccV G b cb) (e : evMake P Z t a b h nb = some r) :
    Okay P (do pure (.value (← Instr.makeSlice t ca cb))) G h w r := by
  unfold evMake at e
  split at e
  · rename_i el k n k' m hu hnb
    split at e
    · rename_i sz ag z hl hz
      split at e
      · rename_i hc
        obtain ⟨rfl, h0, h1, h2, h3, h4⟩ := hc
        cases e
        rw [occV_int ha, occV_int hb]
        obtain ⟨i, c, hi, hiz, hzc, hsol⟩ := Z.ok el _ hz
        have hcc := occV_cells (hzc G) hsol
        have hcz : Occ G.K z c.cells.toList := by cases hcc with | d h => exact h
        have hcs : c.cells.size = sz := by rw [← Array.length_toList, (occ_size hcz).1, h3]
        have his : i.size = sz := by
          have h5 := (lay_spec hl w).1
          simp [sizeOf, typeInfo, hi] at h5
          exact h5
        have hw1 : IntKind.i64.wrap n = n := IntWalk.i64_in n (by omega)
        have hib : i.bytes = P.bytesOf el := by simp [Program.bytesOf, hi]
        have hrun : (Instr.makeSlice t (.int k n) (.int k' n)).run P w = .ok (.slice (some ⟨w.heap.size, 0, none⟩) n.toNat n.toNat) (w.alloc (.cells ((Array.range (n.toNat * sz)).map fun i => c.cells[i % c.cells.size]!) el)) := by
          have hno : ¬ ((n < 0 ∨ (281474976710656 : Int) < (P.bytesOf el : Int) * n) ∨ n < 0) := by omega
          by_cases hn : n.toNat * sz = 0
          · have hn0 : n.toNat = 0 := by
              rcases Nat.mul_eq_zero.1 hn with h5 | h5
              · exact h5
              · exact absurd h5 h4
            simp [Instr.makeSlice, run_underlying hu, asInt, asIntOf, typeInfo, hi, hw1, hib, hno, sizeOf, his, hn, newRow]
            congr 2
            apply Array.ext'
            simp
          · simp [Instr.makeSlice, run_underlying hu, asInt, asIntOf, typeInfo, hi, hw1, hib, hno, sizeOf, his, hn, zeroValue, hiz, newRow]
        have hcells := rep_cells hcz (by omega) n.toNat
        have hle : G.le { G with mu := G.mu.set nb (some w.heap.size) } := by
          refine ⟨fun _ _ _ e => e, fun b blk e => ?_, fun _ n e => ⟨n, e, Nat.le_refl _, fun _ => rfl, fun tk h => ⟨tk, h⟩⟩⟩
          show (G.mu.set nb _)[b]? = _
          rw [List.getElem?_set_ne (fun hb => by subst hb; have := hh.boxes _ _ hnb; simp only [boxOK] at this; rw [this] at e; cases e)]
          exact e
        have hlt : nb < G.mu.length := by rw [hh.mulen]; exact (List.getElem?_eq_some_iff.1 hnb).1
        obtain ⟨k1, k2⟩ := alloc_box hh nb ((Array.range (n.toNat * sz)).map fun i => c.cells[i % c.cells.size]!) el (.row (List.replicate n.toNat z) sz) hnb
          ⟨w.heap.size, _, el, by simp [hlt], heap_alloc_at, by
            rw [hcs] at hcells ⊢
            have h9 := row_len hcells (sz := sz) fun x hx => by rw [List.eq_of_mem_replicate hx]; exact h3
            rw [Array.toList_map, Array.toList_range, List.take_of_length_le (Nat.le_of_eq h9)]
            exact hcells, fun x hx => by rw [List.eq_of_mem_replicate hx]; exact h3, by omega, fun o => hh.knew (Nat.le_refl _)⟩
        exact ⟨_, _, _, _, by simp only [Sem.run_bind, hrun, Result.andThen_ok, Sem.run_pure]; first | done | rfl, .inl rfl, k1, rfl, k2, .one rfl (.msl (by simp [hlt]) (Nat.le_refl _))⟩
      · cases e
    · cases e
  · cases e

/-! ### slices of what there is -/
def bound (o : Option AV) (dflt hi : Nat) : Option Nat :=
  match o with
  | none => some dflt
  | some (.d (.int _ n)) => if 0 ≤ n ∧ n ≤ (hi : Int) then some n.toNat else none
  | _ => none
theorem bound_le {o : Option AV} {dflt hi n : Nat} (h : bound o dflt hi = some n) (hd : dflt ≤ hi) : n ≤ hi := by
  unfold bound at h
  split at h
  · cases h; exact hd
  · split at h
    · cases h; omega
    · cases h
  · cases h
/-- The operand's own bound, where the machine's is no less. -/
theorem bound_run {x : AV} {c : Value} {hi n y : Nat} {d : Nat} (code : BoundsCode) (hx : OccV G x c) (h : bound (some x) d hi = some n) (hy : hi ≤ y) : (Instr.sliceBound c y code).run P w = .ok n w := by
  unfold bound at h
  split at h
  · rename_i h1; cases h1
  · rename_i k m h1
    cases h1
    split at h
    · rename_i hc
      cases h
      rw [occV_int hx]
      have : 0 ≤ m ∧ m ≤ (y : Int) := by omega
      simp [Instr.sliceBound, asIntOf, this]
    · cases h
  · cases h

def evSlice (P : Program) (t : TypeId) (x : AV) (lo hi mx : Option AV) (h : List Box) : Option OR :=
  match x with
  | .d (.str l) =>
    match P.underlying t, mx with
    | some .string, none => (bound hi l.length l.length).bind fun b => (bound lo 0 b).map fun a => .val (.d (.str ((l.take b).drop a)))
    | _, _ => none
  | .ptr b o =>
    match arr P t, lo, hi, mx with
    | some (n, s, _), none, none, none =>
      match h[b]? with
      | some (.var v) => (v.toD).bind fun y => match y.at_ o (n * s) true with
        | some (.agg l) => if l.length = n ∧ l.all (fun z => z.size == s) = true ∧ n ≠ 0 ∧ s ≠ 0 then some (.box b (.fz y) (.full l)) else none
        | _ => none
      | some (.fz y) => match y.at_ o (n * s) true with
        | some (.agg l) => if l.length = n ∧ l.all (fun z => z.size == s) = true ∧ n ≠ 0 ∧ s ≠ 0 then some (.val (.full l)) else none
        | _ => none
      | _ => none
    | _, _, _, _ => none
  | x =>
    match x.items, sle P t with
    | some l, some (s, _, _) =>
      if l.all (fun z => z.size == s) = true then
        match mx with
        | none => (bound hi l.length l.length).bind fun b => (bound lo 0 b).map fun a => .val (.d (.sl ((l.take b).drop a)))
        | some m => if hi.isSome = true then (bound (some m) 0 l.length).bind fun c => (bound hi 0 c).bind fun b => (bound lo 0 b).map fun a => .val (if b = c then .full ((l.take b).drop a) else .d (.sl ((l.take b).drop a))) else none
      else none
    | _, _ => none

/-- Operands that may be there, or not. -/
inductive OccO (G : Gh) : Option AV → Option Value → Prop where
  | none : OccO G none none
  | some {x : AV} {c : Value} (h : OccV G x c) : OccO G (some x) (some c)

theorem bounds_run {lo hi mx : Option AV} {clo chi cmx : Option Value} {isSl : Bool} {len cap l a b c : Nat} (hlo : OccO G lo clo) (hhi : OccO G hi chi) (hlen : l ≤ cap) (hll : len = l)
    (h : (mx = none ∧ cmx = none ∧ bound hi l l = some b ∧ bound lo 0 b = some a ∧ c = cap) ∨
      (∃ m cm, mx = some m ∧ cmx = some cm ∧ OccV G m cm ∧ hi.isSome = true ∧ bound (some m) 0 l = some c ∧ bound hi 0 c = some b ∧ bound lo 0 b = some a)) :
    (Instr.sliceBounds isSl len cap clo chi cmx).run P w = .ok (a, b, c) w := by
  subst hll
  rcases h with ⟨rfl, rfl, h1, h2, rfl⟩ | ⟨m, cm, rfl, rfl, hm, hs, h1, h2, h3⟩
  · cases hhi with
    | none =>
      cases h1
      cases hlo with
      | none => cases h2; simp [Instr.sliceBounds]
      | some hx => simp [Instr.sliceBounds, bound_run (P := P) (w := w) _ hx h2 (Nat.le_refl _)]
    | some hy =>
      have e1 := bound_run (P := P) (w := w) (if isSl = true then BoundsCode.sliceAcap else .sliceAlen) hy h1 hlen
      cases hlo with
      | none => cases h2; simp [Instr.sliceBounds, e1]
      | some hx => simp [Instr.sliceBounds, e1, bound_run (P := P) (w := w) _ hx h2 (Nat.le_refl _)]
  · have e0 := bound_run (P := P) (w := w) (if isSl = true then BoundsCode.slice3Acap else .slice3Alen) hm h1 hlen
    cases hhi with
    | none => cases hs
    | some hy =>
      have h2' : bound (some _) 0 c = some b := h2
      have e1 := bound_run (P := P) (w := w) BoundsCode.slice3B hy h2' (Nat.le_refl _)
      cases hlo with
      | none => cases h3; simp [Instr.sliceBounds, e0, e1]
      | some hx => simp [Instr.sliceBounds, e0, e1, bound_run (P := P) (w := w) _ hx h3 (Nat.le_refl _)]

/-- A piece of a row, at the address that the machine gives it. -/
theorem piece {K : Kn} {l : List D} {bk o sz a b : Nat} (hr : OccR K l bk o sz) : OccR K ((l.take b).drop a) bk (o + a * sz) sz := occR_drop a (occR_take b hr)

theorem slice_okay {t : TypeId} {x : AV} {lo hi mx : Option AV} {c : Value} {clo chi cmx : Option Value} {r : OR} (hh : HeapOK G h w) (hx : OccV G x c) (hlo : OccO G lo clo) (hhi : OccO G hi chi) (hmx : OccO G mx cmx) (e : evSlice P t x lo hi mx h = some r) :
    Okay P (do pure (.value (← Instr.sliceAt t c clo chi cmx))) G h w r := by
  unfold evSlice at e
  split at e
  · rename_i l
    split at e
    · rename_i hu
      cases hmx
      obtain ⟨b, hb, e⟩ := Option.bind_eq_some_iff.1 e
      obtain ⟨a, ha, rfl⟩ := Option.map_eq_some_iff.1 e
      rw [occV_str hx]
      have hsz : (ByteArray.mk l.toArray).size = l.length := by show l.toArray.size = _; simp
      have hrun := bounds_run (P := P) (w := w) (isSl := false) (len := (ByteArray.mk l.toArray).size) (cap := (ByteArray.mk l.toArray).size) (l := l.length) (a := a) (b := b) (c := (ByteArray.mk l.toArray).size) hlo hhi (by omega) hsz (mx := none) (cmx := none) (.inl ⟨rfl, rfl, hb, ha, rfl⟩)
      refine okay_val (v := .string ((ByteArray.mk l.toArray).extract a b)) hh ?_ ?_
      · simp [Instr.sliceAt, Instr.slice, run_underlying hu, hrun]
      · have hx2 : (ByteArray.mk l.toArray).extract a b = ⟨((l.take b).drop a).toArray⟩ := by
          apply ByteArray.ext
          rw [ByteArray.data_extract]
          apply Array.ext'
          simp [List.drop_take]
        rw [hx2]
        exact occV_of_str _
    · cases e
  · rename_i b o
    split at e
    · rename_i n s ag harr
      cases hlo
      cases hhi
      cases hmx
      obtain ⟨el, hu, hl⟩ := arr_spec harr
      have hsz := (lay_spec hl w).1
      cases occV_leaf hx rfl rfl with
      | ptr hmu =>
        rename_i blk
        have hrun : ∀ W : World, (Instr.sliceAt t (.pointer (some ⟨blk, o, none⟩)) none none none).run P w = .ok (.slice (some ⟨blk, o, none⟩) n n) w := fun _ => by
          by_cases hn : n = 0
          · subst hn
            simp [Instr.sliceAt, run_underlying hu, Instr.sureAddr, Instr.sliceBounds, hsz]
          · simp [Instr.sliceAt, run_underlying hu, Instr.sureAddr, Instr.sliceBounds, hsz, add_lit]
        split at e
        · rename_i v hb
          obtain ⟨y, hy, e⟩ := Option.bind_eq_some_iff.1 e
          split at e
          · rename_i l hat
            split at e
            · rename_i hc
              obtain ⟨hln, hall, hn0, hs0⟩ := hc
              cases e
              obtain ⟨blk', cs, ty, h1, h2, h3, h4⟩ := hh.boxes b _ hb
              rw [hmu] at h1
              injection h1 with h1
              injection h1 with h1
              subst h1
              have hyc := occA_toD v h3 hy
              obtain ⟨k1, k2⟩ := freeze_box hh hmu h2 h4 hyc
              obtain ⟨g1, g2, g3, g4⟩ := occ_at y hyc hat
              refine ⟨_, _, _, _, by simp only [Sem.run_bind, hrun w, Result.andThen_ok, Sem.run_pure]; first | done | rfl, .inl rfl, k1, rfl, k2, .one rfl ?_⟩
              have hall' : ∀ z ∈ l, z.size = s := by simpa using hall
              cases g1 with
              | agg g1 =>
                have hrow : OccR (G.K.put blk 0 cs.toList) l blk o s := occR_of (occL_mono k2.le.K g1) hall' (fun j u hj => by
                  rw [List.getElem?_take, List.getElem?_drop] at hj
                  split at hj
                  · have := Kn.put_in G.K blk 0 cs.toList hj
                    rwa [Nat.zero_add] at this
                  · cases hj)
                have := OccA.full (G := { G with K := G.K.put blk 0 cs.toList }) (by omega : 0 < s) hrow
                rw [hln] at this
                exact this
            · cases e
          · cases e
        · rename_i y hb
          split at e
          · rename_i l hat
            split at e
            · rename_i hc
              obtain ⟨hln, hall, hn0, hs0⟩ := hc
              cases e
              obtain ⟨blk', cs, h1, h3, h4⟩ := hh.boxes b _ hb
              rw [hmu] at h1
              injection h1 with h1
              injection h1 with h1
              subst h1
              obtain ⟨g1, g2, g3, g4⟩ := occ_at y h3 hat
              refine okay_val (v := .slice (some ⟨blk, o, none⟩) n n) hh (by simp only [Sem.run_bind, hrun w, Result.andThen_ok, Sem.run_pure]) (.one rfl ?_)
              have hall' : ∀ z ∈ l, z.size = s := by simpa using hall
              cases g1 with
              | agg g1 =>
                have hrow : OccR G.K l blk o s := occR_of g1 hall' (fun j u hj => by
                  rw [List.getElem?_take, List.getElem?_drop] at hj
                  split at hj
                  · exact h4 _ _ hj
                  · cases hj)
                have := OccA.full (G := G) (by omega : 0 < s) hrow
                rw [hln] at this
                exact this
            · cases e
          · cases e
        · cases e
    · cases e
  · split at e
    · rename_i l s ag by_ hit hsl
      split at e
      · rename_i hall
        obtain ⟨el, hu, hl, hs0, _⟩ := sle_spec hsl
        have hsz := (lay_spec hl w).1
        have hall' : ∀ z ∈ l, z.size = s := by simpa using hall
        -- what comes of bounds, wherever the slice lies
        have core : ∀ (a b m : Nat) (v : AV), a ≤ b → b ≤ l.length → (∀ cap, l.length ≤ cap → (Instr.sliceBounds true l.length cap clo chi cmx).run P w = .ok (a, b, if cmx.isSome = true then m else cap) w) → (cmx.isSome = true → b ≤ m ∧ m ≤ l.length) →
            (v = .d (.sl ((l.take b).drop a)) ∨ (v = .full ((l.take b).drop a) ∧ cmx.isSome = true ∧ b = m)) → Okay P (do pure (.value (← Instr.sliceAt t c clo chi cmx))) G h w (.val v) := by
          intro a b m v hab hbl hbr hm hv
          have hlen : ((l.take b).drop a).length = b - a := by rw [List.length_drop, List.length_take, Nat.min_eq_left hbl]
          rcases slice_spec (items_spec hx hit) with ⟨rfl, rfl⟩ | ⟨bk, o, cap, sz, rfl, hcap, hszp, hr⟩
          · have hb0 : b = 0 := by simpa using hbl
            have ha0 : a = 0 := by omega
            subst hb0
            subst ha0
            have h1 := hbr 0 (Nat.le_refl _)
            have hm0 : (if cmx.isSome = true then m else 0) = 0 := by
              split
              · rename_i hcs; have := (hm hcs).2; simpa using this
              · rfl
            rw [hm0] at h1
            refine okay_val (v := .slice none 0 0) hh ?_ ?_
            · simp only [List.length_nil] at h1
              simp [Instr.sliceAt, Instr.slice, run_underlying hu, h1, hsz]
            · rcases hv with rfl | ⟨rfl, _, _⟩
              · exact .one rfl (.d (by simpa using Occ.nils))
              · exact .one rfl (by simpa using OccA.fulln)
          · have h1 := hbr cap hcap
            have hcells : OccR G.K ((l.take b).drop a) bk (o + a * s) s := by
              cases l with
              | nil => simpa using OccR.nil
              | cons z l =>
                have : sz = s := by rw [← occR_sizes hr z (by simp), hall' z (by simp)]
                subst this
                exact piece hr
            generalize hM : (if cmx.isSome = true then m else cap) = M at h1
            have hbM : b ≤ M := by
              rw [← hM]
              split
              · rename_i hcs; exact (hm hcs).1
              · omega
            have hrun : (Instr.sliceAt t (.slice (some ⟨bk, o, none⟩) l.length cap) clo chi cmx).run P w = .ok (.slice (if M = a then some ⟨bk, o, none⟩ else some ⟨bk, o + a * s, none⟩) (b - a) (M - a)) w := by
              simp [Instr.sliceAt, Instr.slice, run_underlying hu, h1, hsz, add_lit]
            have hMM : M - a = b - a ∨ ¬ (cmx.isSome = true ∧ b = m) := by
              by_cases hcs : cmx.isSome = true ∧ b = m
              · left
                rw [← hM, if_pos hcs.1, hcs.2]
              · exact .inr hcs
            by_cases hMa : M = a
            · have hba : b = a := by omega
              have hnil : (l.take b).drop a = [] := List.eq_nil_of_length_eq_zero (by omega)
              refine okay_val (v := .slice (some ⟨bk, o, none⟩) 0 0) hh ?_ ?_
              · rw [if_pos hMa] at hrun
                simp only [Sem.run_bind, hrun, Result.andThen_ok, Sem.run_pure]
                rw [show b - a = 0 by omega, show M - a = 0 by omega]
              · rw [hnil] at hv
                rcases hv with rfl | ⟨rfl, _, _⟩
                · exact .one rfl (.d (.sl (l := []) (sz := s) (by omega) (Nat.le_refl _) .nil))
                · exact .one rfl (.full (l := []) (sz := s) (by omega) .nil)
            · rw [if_neg hMa] at hrun
              refine okay_val (v := .slice (some ⟨bk, o + a * s, none⟩) (b - a) (M - a)) hh (by simp only [Sem.run_bind, hrun, Result.andThen_ok, Sem.run_pure]) ?_
              rcases hv with rfl | ⟨rfl, h5, h6⟩
              · refine .one rfl (.d ?_)
                rw [← hlen]
                exact .sl (by omega) (by omega) hcells
              · have h7 : M - a = b - a := hMM.resolve_right (fun hn => hn ⟨h5, h6⟩)
                rw [h7, ← hlen]
                exact .one rfl (.full (by omega) hcells)
        split at e
        · cases hmx
          obtain ⟨b, hb, e⟩ := Option.bind_eq_some_iff.1 e
          obtain ⟨a, ha, rfl⟩ := Option.map_eq_some_iff.1 e
          have hbl := bound_le hb (Nat.le_refl _)
          have hab := bound_le ha (Nat.zero_le _)
          exact core a b 0 _ hab hbl (fun cap hcap => by
            have := bounds_run (P := P) (w := w) (isSl := true) (len := l.length) (cap := cap) (l := l.length) (a := a) (b := b) (c := cap) hlo hhi hcap rfl (mx := none) (cmx := none) (.inl ⟨rfl, rfl, hb, ha, rfl⟩)
            simpa using this) (fun h => by cases h) (.inl rfl)
        · rename_i m
          cases hmx with
          | some hm =>
            rename_i cm
            split at e
            · rename_i hsome
              obtain ⟨c', hc', e⟩ := Option.bind_eq_some_iff.1 e
              obtain ⟨b, hb, e⟩ := Option.bind_eq_some_iff.1 e
              obtain ⟨a, ha, rfl⟩ := Option.map_eq_some_iff.1 e
              have hcl := bound_le hc' (Nat.zero_le _)
              have hbc := bound_le hb (Nat.zero_le _)
              have hab := bound_le ha (Nat.zero_le _)
              refine core a b c' _ hab (by omega) (fun cap hcap => ?_) (fun _ => ⟨hbc, hcl⟩) ?_
              · have := bounds_run (P := P) (w := w) (isSl := true) (len := l.length) (cap := cap) (l := l.length) (a := a) (b := b) (c := c') hlo hhi hcap rfl (mx := some m) (cmx := some cm) (.inr ⟨m, cm, rfl, rfl, hm, hsome, hc', hb, ha⟩)
                simpa using this
              · split
                · rename_i hbc'
                  exact .inr ⟨rfl, rfl, hbc'⟩
                · exact .inl rfl
            · cases e
      · cases e
    · cases e

/-! ### conversions -/
def numsD : List D → Option (List Int)
  | [] => some []
  | .int .u8 n :: l => (numsD l).map (n :: ·)
  | _ => none
def evConv (P : Program) (src dst : TypeId) (x : AV) (h : List Box) : Option AV :=
  match P.underlying src, P.underlying dst with
  | some (.slice e), some .string =>
    match P.underlying e with
    | some (.int .u8) =>
      match x with
      | .msl b n => match h[b]? with
        | some (.row l sz) => if sz = 1 ∧ l.length = n then (numsD l).map fun ns => .d (.str (ns.map fun n => UInt8.ofNat n.toNat)) else none
        | _ => none
      | x => (x.items).bind fun l => (numsD l).map fun ns => .d (.str (ns.map fun n => UInt8.ofNat n.toNat))
    | _ => none
  | some _, some (.int k) =>
    match x with
    | .d (.int _ n) => some (.d (.int k (k.wrap n)))
    | _ => none
  | _, _ => none
theorem numsD_cells {K : Kn} : ∀ {l : List D} {ns : List Int} {cs : List Value}, numsD l = some ns → OccL K l cs → cs = ns.map (Value.int .u8) ∧ ns.length = l.length
  | [], ns, _, e, .nil => by simp [numsD] at e; subst e; exact ⟨rfl, rfl⟩
  | .int .u8 n :: l, ns, _, e, .cons h t => by
    simp only [numsD] at e
    obtain ⟨ms, hm, rfl⟩ := Option.map_eq_some_iff.1 e
    obtain ⟨h1, h2⟩ := numsD_cells hm t
    cases h
    exact ⟨by simp [h1], by simp [h2]⟩
  | .int .i8 _ :: _, _, _, e, _ => by cases e
  | .int .i16 _ :: _, _, _, e, _ => by cases e
  | .int .i32 _ :: _, _, _, e, _ => by cases e
  | .int .i64 _ :: _, _, _, e, _ => by cases e
  | .int .u16 _ :: _, _, _, e, _ => by cases e
  | .int .u32 _ :: _, _, _, e, _ => by cases e
  | .int .u64 _ :: _, _, _, e, _ => by cases e
  | .bool _ :: _, _, _, e, _ => by cases e
  | .str _ :: _, _, _, e, _ => by cases e
  | .agg _ :: _, _, _, e, _ => by cases e
  | .sl _ :: _, _, _, e, _ => by cases e
theorem conv_okay {src dst : TypeId} {x v : AV} {c : Value} (hh : HeapOK G h w) (hx : OccV G x c) (e : evConv P src dst x h = some v) : ∃ u, (convert src dst c).run P w = .ok u w ∧ OccV G v u := by
  unfold evConv at e
  split at e
  · rename_i el hs hd
    split at e
    · rename_i he
      have fin : ∀ (b o len cap : Nat) (ns : List Int) (cs : List Value), cs = ns.map (Value.int .u8) → ns.length = len → (∀ (j : Nat) (u : Value), cs[j]? = some u → w.cell? ⟨b, o + j, none⟩ = some u) →
          (convert src dst (.slice (some ⟨b, o, none⟩) len cap)).run P w = .ok (.string ⟨(ns.map fun n => UInt8.ofNat n.toNat).toArray⟩) w := by
        intro b o len cap ns cs hcs hlen hcell
        have := run_convert_bytes_arg (P := P) w src el hs he b o len cap ns hlen (fun i hi => hcell i _ (by rw [hcs]; simp [List.getD, List.getElem?_eq_getElem (show i < ns.length by omega)])) dst hd
        exact this
      split at e
      · rename_i b n
        split at e
        · rename_i l sz hb
          split at e
          · rename_i hc
            obtain ⟨rfl, hln⟩ := hc
            obtain ⟨ns, hns, rfl⟩ := Option.map_eq_some_iff.1 e
            obtain ⟨blk, cs, ty, h1, h2, h3, h4, h5, h6⟩ := hh.boxes b _ hb
            cases occV_leaf hx rfl rfl with
            | msl hmu =>
              rw [h1] at hmu
              injection hmu with hmu
              injection hmu with hmu
              subst hmu
              obtain ⟨g1, g2⟩ := numsD_cells hns h3
              exact ⟨_, fin blk 0 n _ ns _ g1 (by omega) (fun j u hj => by rw [cell_cells h2, Nat.zero_add]; simpa using take_get hj), occV_of_str _⟩
          · cases e
        · cases e
      · obtain ⟨l, hl, e⟩ := Option.bind_eq_some_iff.1 e
        obtain ⟨ns, hns, rfl⟩ := Option.map_eq_some_iff.1 e
        rcases slice_spec (items_spec hx hl) with ⟨rfl, rfl⟩ | ⟨b, o, cap, sz, rfl, _, _, hr⟩
        · simp only [numsD, Option.some.injEq] at hns
          subst hns
          exact ⟨_, run_convert_bytes_nil (P := P) w src el hs he 0 0 dst hd, occV_of_str (G := G) []⟩
        · obtain ⟨cs, g1, g2, g3⟩ := occR_cells hr
          obtain ⟨g4, g5⟩ := numsD_cells hns g1
          exact ⟨_, fin b o l.length cap ns cs g4 g5 (fun j u hj => hh.know _ _ _ (g3 j u hj)), occV_of_str _⟩
    · cases e
  · rename_i ds k hs hd
    split at e
    · rename_i k' n
      cases e
      rw [occV_int hx]
      refine ⟨_, ?_, occV_of_int _ _⟩
      simp [convert, run_underlying hs, run_underlying hd, Conv.intToInt]
    · cases e
  · cases e
end
end Go.Am
