/- The abstract machine, part 17: functions: entry, results, what is dropped at the end. -/
import Derived.Test.YtbhgeilmhknnaaaGreatDoorAmXr
namespace Go.Am

mutual
/-- It names boxes below n and tokens below m only. -/
def AV.bnd (n m : Nat) : AV → Bool
  | .any | .d _ | .full _ | .kp _ | .con _ => true
  | .own _ t => decide (t < m)
  | .msl b _ | .ptr b _ | .eptr b _ _ | .kpp b _ => decide (b < n)
  | .ptrs l => l.all fun p => decide (p.1 < n)
  | .agg l => AV.bndL n m l
  | .tup l => AV.bndL n m l
  | .fn _ l => AV.bndL n m l
  | .iface _ x => x.bnd n m
def AV.bndL (n m : Nat) : List AV → Bool
  | [] => true
  | x :: l => x.bnd n m && AV.bndL n m l
end
def Box.bnd (n m : Nat) : Box → Bool
  | .var v => v.bnd n m
  | _ => true
def Gh.cut (G : Gh) (n m : Nat) : Gh := { K := G.K, mu := G.mu.take n, tk := G.tk.take m, k := G.k.take m }

theorem take_some {α : Type} {l : List α} {n i : Nat} {x : α} (h : l[i]? = some x) (hi : i < n) : (l.take n)[i]? = some x := by
  rw [List.getElem?_take, if_pos hi]; exact h
theorem some_take {α : Type} {l : List α} {n i : Nat} {x : α} (h : (l.take n)[i]? = some x) : l[i]? = some x ∧ i < n := by
  rw [List.getElem?_take] at h
  split at h
  · exact ⟨h, by assumption⟩
  · cases h

section
variable {G : Gh} {n m : Nat}
theorem cut_own {l : List D} {t p : Nat} {tk : Tk} {c : Value} (hn : G.k[t]? = some (some p)) (hl : l.length ≤ p) (ht : G.tk[t]? = some tk) (hi : l.length = p → tk.is G.K l c) (h : Occ G.K (.sl l) [c]) (hc : decide (t < m) = true) : OccA (G.cut n m) (.own l t) [c] :=
  .own (take_some hn (by simpa using hc)) hl (take_some ht (by simpa using hc)) hi h
theorem cut_mu {b blk : Nat} (h : G.mu[b]? = some (some blk)) (hc : decide (b < n) = true) : (G.cut n m).mu[b]? = some (some blk) := take_some h (by simpa using hc)
theorem cut_ptrs {l : List (Nat × Nat)} {b o : Nat} (h : ∀ (j : Nat) (p : Nat × Nat), l[j]? = some p → ∃ blk, G.mu[p.1]? = some (some blk) ∧ G.K b (o + j) = some (.pointer (some ⟨blk, p.2, none⟩))) (hc : (l.all fun p => decide (p.1 < n)) = true) :
    OccA (G.cut n m) (.ptrs l) [.slice (some ⟨b, o, none⟩) l.length l.length] := by
  refine .ptrs fun j p hj => ?_
  obtain ⟨blk, h1, h2⟩ := h j p hj
  simp only [List.all_eq_true] at hc
  exact ⟨blk, cut_mu h1 (hc p (List.mem_of_getElem? hj)), h2⟩
theorem occA_cut {v : AV} {cs : List Value} (h : OccA G v cs) : v.bnd n m = true → OccA (G.cut n m) v cs :=
  OccA.rec (G := G) (motive_1 := fun v cs _ => v.bnd n m = true → OccA (G.cut n m) v cs) (motive_2 := fun v cs _ => AV.bndL n m v = true → OccAL (G.cut n m) v cs) (motive_3 := fun v c _ => v.bnd n m = true → OccV (G.cut n m) v c) (motive_4 := fun v c _ => AV.bndL n m v = true → OccVL (G.cut n m) v c)
    (fun h _ => .d h) (fun _ => .fulln) (fun hsz h _ => .full hsz h) (fun hn hl ht hi h hc => cut_own hn hl ht hi h hc)
    (fun h hl hc => .msl (cut_mu h hc) hl) (fun h hc => .ptr (cut_mu h hc)) (fun h hc => .eptr (cut_mu h hc))
    (fun h hk _ => .kp h hk) (fun h hk hc => .kpp (cut_mu h hc) hk) (fun h hc => cut_ptrs h hc)
    (fun _ h hc => .agg (h hc)) (fun _ h hc => .fn (h hc)) (fun _ h hc => .iface (h hc)) (fun h _ => .con h) (fun _ => .nil)
    (fun _ _ h t hc => by simp only [AV.bndL, Bool.and_eq_true] at hc; exact .cons (h hc.1) (t hc.2))
    (fun c _ => .any c) (fun ha _ h hc => .one ha (h hc)) (fun ha _ h hc => .agg ha (h hc)) (fun _ h hc => .tup (h hc)) (fun _ => .nil)
    (fun _ _ h t hc => by simp only [AV.bndL, Bool.and_eq_true] at hc; exact .cons (h hc.1) (t hc.2)) h
theorem occV_cut {v : AV} {c : Value} (h : OccV G v c) : v.bnd n m = true → OccV (G.cut n m) v c :=
  OccV.rec (G := G) (motive_1 := fun v cs _ => v.bnd n m = true → OccA (G.cut n m) v cs) (motive_2 := fun v cs _ => AV.bndL n m v = true → OccAL (G.cut n m) v cs) (motive_3 := fun v c _ => v.bnd n m = true → OccV (G.cut n m) v c) (motive_4 := fun v c _ => AV.bndL n m v = true → OccVL (G.cut n m) v c)
    (fun h _ => .d h) (fun _ => .fulln) (fun hsz h _ => .full hsz h) (fun hn hl ht hi h hc => cut_own hn hl ht hi h hc)
    (fun h hl hc => .msl (cut_mu h hc) hl) (fun h hc => .ptr (cut_mu h hc)) (fun h hc => .eptr (cut_mu h hc))
    (fun h hk _ => .kp h hk) (fun h hk hc => .kpp (cut_mu h hc) hk) (fun h hc => cut_ptrs h hc)
    (fun _ h hc => .agg (h hc)) (fun _ h hc => .fn (h hc)) (fun _ h hc => .iface (h hc)) (fun h _ => .con h) (fun _ => .nil)
    (fun _ _ h t hc => by simp only [AV.bndL, Bool.and_eq_true] at hc; exact .cons (h hc.1) (t hc.2))
    (fun c _ => .any c) (fun ha _ h hc => .one ha (h hc)) (fun ha _ h hc => .agg ha (h hc)) (fun _ h hc => .tup (h hc)) (fun _ => .nil)
    (fun _ _ h t hc => by simp only [AV.bndL, Bool.and_eq_true] at hc; exact .cons (h hc.1) (t hc.2)) h

theorem cut_owns {blk : Nat} (h : (G.cut n m).owns blk) : G.owns blk := by
  rcases h with ⟨b, e⟩ | ⟨t, tk, p, o, e1, e2, e3, e4⟩
  · exact .inl ⟨b, (some_take e).1⟩
  · exact .inr ⟨t, tk, p, o, (some_take e1).1, (some_take e2).1, e3, e4⟩
theorem heap_cut {h : List Box} {w : World} (hh : HeapOK G h w) (hb : (h.take n).all (Box.bnd n m) = true) : HeapOK (G.cut n m) (h.take n) w := by
  simp only [List.all_eq_true] at hb
  refine ⟨by simp [Gh.cut, hh.mulen], by simp [Gh.cut, hh.tklen], fun b b' blk e e' => hh.inj b b' blk (some_take e).1 (some_take e').1, fun b blk e => hh.lt b blk (some_take e).1, fun b x hx => ?_, hh.know, fun t tk p e1 e2 => ?_,
    fun t t' tk tk' p p' b o o' hne e1 e2 e3 e4 => hh.tokinj t t' tk tk' p p' b o o' hne (some_take e1).1 (some_take e2).1 (some_take e3).1 (some_take e4).1⟩
  · obtain ⟨h1, h2⟩ := some_take hx
    have hbx := hb x (List.mem_of_getElem? hx)
    have hx := hh.boxes b x h1
    cases x with
    | hole => exact take_some hx h2
    | var v =>
      obtain ⟨blk, cs, ty, g1, g2, g3, g4⟩ := hx
      exact ⟨blk, cs, ty, take_some g1 h2, g2, occA_cut g3 hbx, g4⟩
    | row l sz =>
      obtain ⟨blk, cs, ty, g1, g2, g3⟩ := hx
      exact ⟨blk, cs, ty, take_some g1 h2, g2, g3⟩
    | fz y =>
      obtain ⟨blk, cs, g1, g2⟩ := hx
      exact ⟨blk, cs, take_some g1 h2, g2⟩
  · have := hh.tok t tk p (some_take e1).1 (some_take e2).1
    unfold Tk.ok at this ⊢
    split
    · rename_i he
      simpa [he] using this
    · rename_i b o he
      simp only [he] at this
      refine ⟨this.1, this.2.1, fun hn => ?_⟩
      obtain ⟨c, ty, g1, g2, g3, g4⟩ := this.2.2 hn
      exact ⟨c, ty, g1, g2, g3, fun i e => g4 i (some_take e).1⟩
theorem ext_cut {G0 : Gh} {w w' : World} (hx : Ext G0 G w w') (h1 : G0.mu.length ≤ n) (h2 : G0.k.length ≤ m) (_h3 : G0.tk.length ≤ m) : Ext G0 (G.cut n m) w w' := by
  refine ⟨⟨hx.le.K, fun b blk e => take_some (hx.le.mu b blk e) ?_, fun t p e => ?_⟩, hx.os, hx.tape, hx.output, hx.size, hx.frame, hx.newK, fun blk hb ho => hx.owns blk hb (cut_owns ho), fun b blk e => hx.newmu b blk (some_take e).1⟩
  · have := (List.getElem?_eq_some_iff.1 e).1
    omega
  · have hl := (List.getElem?_eq_some_iff.1 e).1
    obtain ⟨p', g1, g2, g3, g4⟩ := hx.le.k t p e
    refine ⟨p', take_some g1 (by omega), g2, fun hp => ?_, fun tk ht => ?_⟩
    · show (G.tk.take m)[t]? = _
      rw [List.getElem?_take, if_pos (by omega)]
      exact g3 hp
    · obtain ⟨tk', h⟩ := g4 tk ht
      exact ⟨tk', take_some h (by omega)⟩
end

theorem occA_dat {G : Gh} {x : AV} {cs : List Value} (h : OccA G x cs) : OccA G x.dat cs := by
  unfold AV.dat
  cases e : x.toD with
  | none => exact h
  | some y => exact .d (occA_toD x h e)
def Box.dat : Box → Box
  | .var v => .var v.dat
  | b => b
def datB (bs : List Nat) : List Box → Nat → List Box
  | [], _ => []
  | b :: r, i => (bif bs.contains i then b.dat else b) :: datB bs r (i + 1)
theorem datB_len {bs : List Nat} : ∀ (h : List Box) (i : Nat), (datB bs h i).length = h.length
  | [], _ => rfl
  | b :: r, i => by simp [datB, datB_len r]
theorem datB_get {bs : List Nat} : ∀ (h : List Box) (i b : Nat) (x : Box), (datB bs h i)[b]? = some x → ∃ y, h[b]? = some y ∧ (x = y ∨ x = y.dat)
  | [], _, b, x, e => by simp [datB] at e
  | y :: r, i, 0, x, e => by
    simp only [datB, List.getElem?_cons_zero, Option.some.injEq] at e
    refine ⟨y, rfl, ?_⟩
    subst e
    cases bs.contains i with
    | true => exact .inr rfl
    | false => exact .inl rfl
  | y :: r, i, b + 1, x, e => by
    simp only [datB, List.getElem?_cons_succ] at e ⊢
    exact datB_get r (i + 1) b x e
theorem heap_dat {G : Gh} {h h2 : List Box} {w : World} (hh : HeapOK G h w) (hl : h2.length = h.length) (hb : ∀ (b : Nat) (y : Box), h2[b]? = some y → ∃ x, h[b]? = some x ∧ (y = x ∨ y = x.dat)) : HeapOK G h2 w := by
  refine ⟨hh.mulen.trans hl.symm, hh.tklen, hh.inj, hh.lt, fun b y hy => ?_, hh.know, hh.tok, hh.tokinj⟩
  obtain ⟨x, hx, hxy⟩ := hb b y hy
  have hbx := hh.boxes b x hx
  rcases hxy with rfl | rfl
  · exact hbx
  · cases x with
    | var v =>
      obtain ⟨blk, cs, ty, g1, g2, g3, g4⟩ := hbx
      exact ⟨blk, cs, ty, g1, g2, occA_dat g3, g4⟩
    | _ => exact hbx
/-! ### results -/
def retX (P : Program) (s : AS) : List ResultVar → Option (List AV)
  | [] => some []
  | .tmp i :: r => (retX P s r).map (s.t i :: ·)
  | .cell a t :: r => match s.t a with
    | .ptr b o => match evLoad P t (.ptr b o) s.h, retX P s r with
      | some v, some l => some (v :: l)
      | _, _ => none
    | _ => none
def single : List AV → AV
  | [x] => x
  | l => .tup l

section
variable {P : Program} {B : Base}
theorem loadVar_run {G : Gh} {h : List Box} {w : World} {t : TypeId} {b o : Nat} {c : Value} {v : AV} (hh : HeapOK G h w) (ha : OccV G (.ptr b o) c) (e : evLoad P t (.ptr b o) h = some v) :
    ∃ a u, c = .pointer (some a) ∧ (loadVar t a).run P w = .ok u w ∧ OccV G v u := by
  unfold evLoad at e
  split at e
  · cases e
  · rename_i s ag hl
    cases occV_leaf ha rfl rfl with
    | ptr hmu =>
      rename_i blk
      simp only at e
      split at e
      · rename_i u hb
        obtain ⟨blk', cs, ty, h1, h2, h3, h4⟩ := hh.boxes b _ hb
        rw [hmu] at h1
        injection h1 with h1
        injection h1 with h1
        subst h1
        obtain ⟨g1, g2, g3, g4⟩ := occA_at u h3 e
        obtain ⟨x, hx, hov⟩ := loadVar_ok (P := P) (w := w) (b := blk) (o := o) hl g1 g2 g3 (fun j z hj => by
          rw [cell_cells h2]
          rw [List.getElem?_take, List.getElem?_drop] at hj
          split at hj
          · simpa using hj
          · cases hj)
        exact ⟨_, x, rfl, hx, hov⟩
      · rename_i x hb
        obtain ⟨blk', cs, h1, h3, h4⟩ := hh.boxes b _ hb
        rw [hmu] at h1
        injection h1 with h1
        injection h1 with h1
        subst h1
        obtain ⟨y, hy, rfl⟩ := Option.map_eq_some_iff.1 e
        obtain ⟨g1, g2, g3, g4⟩ := occ_at x h3 hy
        obtain ⟨x, hx, hov⟩ := loadVar_ok (P := P) (w := w) (b := blk) (o := o) (v := .d y) hl (.d g1) g2 g3 (fun j z hj => by
          rw [List.getElem?_take, List.getElem?_drop] at hj
          split at hj
          · exact hh.know _ _ _ (h4 _ _ hj)
          · cases hj)
        exact ⟨_, x, rfl, hx, hov⟩
      · cases e

theorem ret_list {G : Gh} {s : AS} {a : Act} {w : World} (hs : Sim G s a w) : ∀ (rs : List ResultVar) (vs : List AV), retX P s rs = some vs → ∃ us, (rs.mapM (fun x => match x with
      | ResultVar.tmp t => pure (a.tmps.getD t undef)
      | ResultVar.cell c t => do loadVar t (← asAddr (a.tmps.getD c undef))) : Sem (List Value)).run P w = .ok us w ∧ OccVL G vs us
  | [], vs, h => by
    cases h
    exact ⟨[], rfl, .nil⟩
  | .tmp i :: rs, vs, h => by
    simp only [retX, Option.map_eq_some_iff] at h
    obtain ⟨l, hl, rfl⟩ := h
    obtain ⟨us, h1, h2⟩ := ret_list hs rs l hl
    refine ⟨a.tmps.getD i undef :: us, ?_, .cons (hs.tmp i) h2⟩
    rw [List.mapM_cons]
    simp only [pure_bind]
    simp [-Array.getD_eq_getD_getElem?, h1]
  | .cell c t :: rs, vs, h => by
    unfold retX at h
    split at h
    · rename_i b o hc
      split at h
      · rename_i v l hv hl
        cases h
        obtain ⟨us, h1, h2⟩ := ret_list hs rs l hl
        have hov := hs.tmp c
        rw [hc] at hov
        obtain ⟨ad, u, e1, e2, e3⟩ := loadVar_run hs.heap hov hv
        refine ⟨u :: us, ?_, .cons e3 h2⟩
        rw [List.mapM_cons]
        simp [-Array.getD_eq_getD_getElem?, e1, asAddr, e2]
        have h1' := h1
        simp only [asAddr] at h1'
        rw [h1']
        rfl
      · cases h
    · cases h
theorem ret_ok {G : Gh} {s : AS} {a : Act} {w : World} (hs : Sim G s a w) {fn : Func} {vs : List AV} (h : retX P s fn.results.toList = some vs) : ∃ u, (results fn a.tmps).run P w = .ok u w ∧ OccV G (single vs) u := by
  obtain ⟨us, h1, h2⟩ := ret_list hs _ _ h
  unfold results
  rw [Array.mapM_eq_mapM_toList]
  refine ⟨if h : us.toArray.size = 1 then us.toArray[0] else .tuple us.toArray, ?_, ?_⟩
  · simp [-Array.getD_eq_getD_getElem?]
    exact congrArg (fun r => r.andThen fun a w' => Result.ok (if h : a.length = 1 then a[0] else Value.tuple a.toArray) w') h1
  · cases h2 with
    | nil => exact .tup .nil
    | cons h3 h4 =>
      cases h4 with
      | nil => exact h3
      | cons h5 h6 => exact .tup (.cons h3 (.cons h5 h6))

/-- What a body comes to, when it is left. -/
def Leave (P : Program) (fn : Func) (n m : Nat) (rs : List AV) (h' : List Box) (k' : List (Option Nat)) (e : Exit) (s : AS) : Prop :=
  (e = .normal ∨ e = .ret) ∧ ∃ vs, retX P s fn.results.toList = some vs ∧ Fit vs rs ∧ (∃ bs, datB bs (s.h.take n) 0 = h') ∧ s.k.take m = k' ∧ AV.bndL n m rs = true ∧ (s.h.take n).all (Box.bnd n m) = true
def argsT : Nat → List AV → List (Nat × AV)
  | _, [] => []
  | i, x :: l => (i, x) :: argsT (i + 1) l
theorem look_args : ∀ (l : List AV) (i j : Nat), look (argsT i l) j = if i ≤ j then l.getD (j - i) .any else .any
  | [], i, j => by simp [argsT, look]
  | x :: l, i, j => by
    unfold argsT look
    by_cases h : j = i
    · subst h
      simp
    · have : Nat.beq j i = false := by
        cases hb : Nat.beq j i with
        | true => exact absurd (Nat.eq_of_beq_eq_true hb) h
        | false => rfl
      rw [this, cond_false, look_args l (i + 1) j]
      by_cases hij : i + 1 ≤ j
      · rw [if_pos hij, if_pos (by omega), show j - i = (j - (i + 1)) + 1 by omega, List.getD_cons_succ]
      · rw [if_neg hij, if_neg (by omega)]
theorem occVL_getD {G : Gh} : ∀ {l : List AV} {cs : List Value}, OccVL G l cs → ∀ i, OccV G (l.getD i .any) (cs.getD i undef)
  | _, _, .nil, i => .any _
  | _, _, .cons h t, 0 => h
  | _, _, .cons h t, i + 1 => by
    rw [List.getD_cons_succ, List.getD_cons_succ]
    exact occVL_getD t i
theorem occVL_len {G : Gh} : ∀ {l : List AV} {cs : List Value}, OccVL G l cs → l.length = cs.length
  | _, _, .nil => rfl
  | _, _, .cons _ t => by simp [occVL_len t]
/-- The state at the start knows just so many boxes and tokens. -/
structure BOK (B : Base) (n m : Nat) : Prop where
  mu : B.G.mu.length = n
  k : B.G.k.length = m
  tk : B.G.tk.length = m
theorem fn_ok {f : FuncId} {fn : Func} {c : Code} {args : List AV} {h : List Box} {k : List (Option Nat)} {rs : List AV} {h' : List Box} {k' : List (Option Nat)} (hf : P.funcs[f]? = some fn) (hb : fn.body = some c)
    (hent : enters P f = true) (hn : args.length ≤ fn.ntmps) (hw : ∀ B, BOK B h.length k.length → AWp P B c (Leave P fn h.length k.length rs h' k') (st fn.ntmps (argsT 0 args) h k)) : CallOK P f args h k (single rs) h' k' := by
  refine ⟨hent, fun G w cs hh hK hk hargs => ?_⟩
  subst hk
  refine calls_of_wp hf hb ?_
  have hlen := occVL_len hargs
  have hinv : Inv ⟨G, w, hK⟩ (st fn.ntmps (argsT 0 args) h G.k) { tmps := cs.toArray ++ Array.replicate (fn.ntmps - cs.toArray.size) undef, defers := [] } w := by
    refine ⟨G, ⟨hh, rfl, rfl, ?_, fun i => ?_⟩, .refl _ _⟩
    · simp [st]
      omega
    · show OccV G (look (argsT 0 args) i) _
      rw [look_args, if_pos (Nat.zero_le _), Nat.sub_zero]
      have := occVL_getD hargs i
      by_cases hi : i < cs.length
      · simp only [Array.getD_eq_getD_getElem?]
        rw [Array.getElem?_append_left (by simpa using hi)]
        simpa using this
      · rw [List.getD_eq_getElem?_getD, List.getElem?_eq_none (by omega)]
        exact .any _
  refine wp_mono (hw ⟨G, w, hK⟩ ⟨hh.mulen, rfl, hh.tklen⟩ _ _ hinv) ?_
  rintro e a' w' ⟨s', ⟨G', hs, hx⟩, he, vs, hret, hfit, ⟨bs, hh'⟩, hk', hbr, hbh⟩
  obtain ⟨u, h1, h2⟩ := ret_ok hs hret
  have hpost : ∃ v, (results fn a'.tmps).run P w' = .ok v w' ∧ ∃ G' v', Ending.returned v = .returned v' ∧ HeapOK G' h' w' ∧ G'.k = k' ∧ Ext G G' w w' ∧ OccV G' (single rs) v' := by
    refine ⟨u, h1, G'.cut h.length G.k.length, u, rfl, ?_, ?_, ?_, ?_⟩
    · rw [← hh']
      exact heap_dat (heap_cut hs.heap hbh) (datB_len _ _) fun b y hy => datB_get _ _ _ _ hy
    · rw [← hk', ← hs.k]
      rfl
    · exact ext_cut hx (Nat.le_of_eq hh.mulen) (Nat.le_refl _) (Nat.le_of_eq hh.tklen)
    · refine occV_cut ?_ ?_
      · -- fitting
        cases h2' : vs with
        | nil => subst h2'; cases hfit; exact h2
        | cons x l =>
          subst h2'
          have key : ∀ {us : List Value}, OccVL G' (x :: l) us → OccVL G' rs us := fun h => occVL_fit hfit h
          cases l with
          | nil =>
            cases hfit with
            | same h => cases h; exact h2
            | data e h => cases h; exact occV_data h2 e
          | cons y l =>
            have h2 : OccV G' (.tup (x :: y :: l)) u := h2
            have : ∃ us, u = .tuple us.toArray ∧ OccVL G' (x :: y :: l) us := by
              cases h2 with
              | tup h => exact ⟨_, rfl, h⟩
              | one _ h => cases h
              | agg h _ => cases h
            obtain ⟨us, rfl, h3⟩ := this
            have h4 := key h3
            have hl2 := (occVL_len h4).trans (occVL_len h3).symm
            match rs, hl2 with
            | r1 :: r2 :: rs, _ => exact .tup h4
      · match rs, hbr with
        | [], h => rfl
        | [x], h => simpa [AV.bndL, single] using h
        | x :: y :: l, h => exact h
  obtain ⟨v, hr, hR⟩ := hpost
  rcases he with rfl | rfl
  · exact ⟨hs.defers, v, hr, hR⟩
  · exact ⟨hs.defers, v, hr, hR⟩
end
end Go.Am
