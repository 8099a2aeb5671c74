/- The abstract machine, part 20: the rules as the generator uses them. -/
import Derived.Test.YtbhgeilmhknnaaaGreatDoorAmLib
namespace Go.Am
section
variable {P : Program} {Z : Zeros P} {B : Base} {Q : Exit → AS → Prop} {n : Nat} {l0 : List (Nat × AV)} {h0 : List Box} {k0 : List (Option Nat)}

theorem rg {id : Nat} {draw : Bool} {ops : Array Oper} (x c : Nat) (orcs : List (Nat × Orc)) (lgs : List Lg) (l : List (Nat × AV)) (h : List Box) (k : List (Option Nat)) (hm : P.follows .mixedOrders = true)
    (hr : resX P Z draw ops.toList (st n l0 h0 k0) x c orcs l = some (lgs, true, l.map Prod.snd, h, k)) (hg : Good P orcs lgs) (hq : Q .normal (st n l h k)) : AWp P B (.region id ops draw) Q (st n l0 h0 k0) :=
  aw_rg Z x c orcs lgs l h k hm hr hg hq
theorem cd_t {c : Operand} {x y : Code} {b : Bool} {s : AS} (hb : b = true) (hc : s.ev c = .d (.bool b)) (ht : AWp P B x Q s) : AWp P B (.cond c x y) Q s :=
  aw_cond hc (fun _ => ht) (fun h => by rw [hb] at h; cases h)
theorem cd_f {c : Operand} {x y : Code} {b : Bool} {s : AS} (hb : b = false) (hc : s.ev c = .d (.bool b)) (ht : AWp P B y Q s) : AWp P B (.cond c x y) Q s :=
  aw_cond hc (fun h => by rw [hb] at h; cases h) (fun _ => ht)
/-- A condition that is known, as an operation's answer. -/
theorem bo {c d : Bool} (h : c = d) : some (OR.val (.d (.bool c))) = some (.val (.d (.bool d))) := by rw [h]
theorem nt {c : Bool} (h : (!c) = true) : c = false := by cases c <;> simp_all
theorem nf {c : Bool} (h : (!c) = false) : c = true := by cases c <;> simp_all
theorem tn {c : Bool} (h : c = true) : (!c) = false := by rw [h]; rfl
theorem fn_ {c : Bool} (h : c = false) : (!c) = true := by rw [h]; rfl

/-! ### leaving -/
def fitX : List Bool → List AV → List AV
  | true :: fs, x :: l => x.dat :: fitX fs l
  | false :: fs, x :: l => x :: fitX fs l
  | _, l => l
theorem fitX_ok : ∀ (fs : List Bool) (l : List AV), Fit l (fitX fs l)
  | [], [] => .nil
  | [], x :: l => by
    have := fitX_ok [] l
    simp only [fitX] at this ⊢
    exact .same this
  | true :: _, [] => .nil
  | false :: _, [] => .nil
  | true :: fs, x :: l => by
    simp only [fitX, AV.dat]
    cases h : x.toD with
    | none => exact .same (fitX_ok fs l)
    | some y => exact .data h (fitX_ok fs l)
  | false :: fs, x :: l => .same (fitX_ok fs l)
def lvX (P : Program) (rv : List ResultVar) (s : AS) (n m : Nat) (fs : List Bool) (bs : List Nat) : Option (List AV × List Box × List (Option Nat) × Bool) :=
  match retX P s rv with
  | some vs => some (fitX fs vs, datB bs (s.h.take n) 0, s.k.take m, AV.bndL n m (fitX fs vs) && (s.h.take n).all (Box.bnd n m))
  | none => none
theorem leave {fn : Func} {a m : Nat} {rs : List AV} {h' : List Box} {k' : List (Option Nat)} {e : Exit} {s : AS} (he : e = .normal ∨ e = .ret) (fs : List Bool) (bs : List Nat) (h : lvX P fn.results.toList s a m fs bs = some (rs, h', k', true)) : Leave P fn a m rs h' k' e s := by
  unfold lvX at h
  split at h
  · rename_i vs hv
    simp only [Option.some.injEq, Prod.mk.injEq, Bool.and_eq_true] at h
    obtain ⟨rfl, rfl, rfl, h1, h2⟩ := h
    exact ⟨he, vs, hv, fitX_ok fs vs, ⟨bs, rfl⟩, rfl, h1, h2⟩
  · cases h
theorem lv_r {fn : Func} {a m : Nat} {rs : List AV} {h' : List Box} {k' : List (Option Nat)} {s : AS} (fs : List Bool) (bs : List Nat) (h : lvX P fn.results.toList s a m fs bs = some (rs, h', k', true)) : Leave P fn a m rs h' k' .ret s := leave (.inr rfl) fs bs h
theorem lv_n {fn : Func} {a m : Nat} {rs : List AV} {h' : List Box} {k' : List (Option Nat)} {s : AS} (fs : List Bool) (bs : List Nat) (h : lvX P fn.results.toList s a m fs bs = some (rs, h', k', true)) : Leave P fn a m rs h' k' .normal s := leave (.inl rfl) fs bs h

/-! ### states that say less -/
/-- Whatever is in the first state is in the second one. -/
def Wk (B : Base) (s s' : AS) : Prop := ∀ a w, Inv B s a w → Inv B s' a w
theorem Wk.refl (s : AS) : Wk B s s := fun _ _ h => h
theorem Wk.trans {a b c : AS} (h : Wk B a b) (g : Wk B b c) : Wk B a c := fun _ _ hi => g _ _ (h _ _ hi)
theorem aw_wk {s s' : AS} {c : Code} (h : Wk B s s') (g : AWp P B c Q s') : AWp P B c Q s := fun a w hi => g a w (h a w hi)
theorem look_bnd {x c : Nat} : ∀ l : List (Nat × AV), AV.bndL x c (l.map Prod.snd) = true → ∀ i, (look l i).bnd x c = true
  | [], _, i => rfl
  | (j, v) :: l, h, i => by
    simp only [List.map_cons, AV.bndL, Bool.and_eq_true] at h
    unfold look
    cases Nat.beq i j with
    | true => exact h.1
    | false => exact look_bnd l h.2 i
def cutX (s : AS) (x c : Nat) (l : List (Nat × AV)) : List AV × List Box × List (Option Nat) × Bool := (l.map (fun q => s.t q.1), s.h.take x, s.k.take c, AV.bndL x c (l.map Prod.snd) && (s.h.take x).all (Box.bnd x c))
/-- What is behind the first boxes and tokens is forgotten. -/
theorem wk_cut {nb nk : Nat} (hB : BOK B nb nk) (x c : Nat) {l : List (Nat × AV)} {h : List Box} {k : List (Option Nat)} (hx : (decide (nb ≤ x) && decide (nk ≤ c)) = true) (he : cutX (st n l0 h0 k0) x c l = (l.map Prod.snd, h, k, true)) : Wk B (st n l0 h0 k0) (st n l h k) := by
  intro a w hi
  simp only [cutX, Prod.mk.injEq, Bool.and_eq_true, decide_eq_true_eq] at he hx
  obtain ⟨hl, hh, hk, hb, hbx⟩ := he
  obtain ⟨G, hs, hxt⟩ := inv_st hi rfl hl rfl rfl
  refine ⟨G.cut x c, ⟨?_, ?_, hs.defers, hs.size, fun i => occV_cut (hs.tmp i) (look_bnd l hb i)⟩, ext_cut hxt (by rw [hB.mu]; exact hx.1) (by rw [hB.k]; exact hx.2) (by rw [hB.tk]; exact hx.2)⟩
  · show HeapOK (G.cut x c) h w
    rw [← hh]
    exact heap_cut hs.heap hbx
  · show G.k.take c = k
    rw [hs.k]
    exact hk
theorem wk_live {l : List (Nat × AV)} (hl : l.map (fun q => (st n l0 h0 k0).t q.1) = l.map Prod.snd) : Wk B (st n l0 h0 k0) (st n l h0 k0) := fun _ _ hi => inv_st hi rfl hl rfl rfl

theorem occV_dat {G : Gh} {x : AV} {c : Value} (h : OccV G x c) : OccV G x.dat c := by
  unfold AV.dat
  cases e : x.toD with
  | none => exact h
  | some y => exact occV_data h e
def datT (is : List Nat) : List (Nat × AV) → List (Nat × AV)
  | [] => []
  | (i, v) :: r => (i, bif is.contains i then v.dat else v) :: datT is r
theorem look_datT {is : List Nat} : ∀ (l : List (Nat × AV)) (i : Nat), look (datT is l) i = look l i ∨ look (datT is l) i = (look l i).dat
  | [], i => .inl rfl
  | (j, v) :: l, i => by
    simp only [datT, look]
    cases Nat.beq i j with
    | true => cases is.contains j with
      | true => exact .inr rfl
      | false => exact .inl rfl
    | false => exact look_datT l i
/-- Slices to be appended to, and what is made of parts, as data. -/
theorem wk_dat (is bs : List Nat) {l : List (Nat × AV)} {h : List Box} (he : (datT is l0, datB bs h0 0) = (l, h)) : Wk B (st n l0 h0 k0) (st n l h k0) := by
  simp only [Prod.mk.injEq] at he
  obtain ⟨rfl, rfl⟩ := he
  rintro a w ⟨G, hs, hx⟩
  have hh := hs.heap
  refine ⟨G, ⟨⟨?_, hh.tklen, hh.inj, hh.lt, fun b x hb => ?_, hh.know, hh.tok, hh.tokinj⟩, hs.k, hs.defers, hs.size, fun i => ?_⟩, hx⟩
  · have := hh.mulen
    show G.mu.length = (datB bs h0 0).length
    rw [datB_len]
    exact this
  · obtain ⟨y, hy, hxy⟩ := datB_get h0 0 b x hb
    have hbx := hh.boxes b y hy
    rcases hxy with rfl | rfl
    · exact hbx
    · cases y with
      | var v =>
        obtain ⟨blk, cs, ty, g1, g2, g3, g4⟩ := hbx
        exact ⟨blk, cs, ty, g1, g2, occA_dat g3, g4⟩
      | _ => exact hbx
  · have := hs.tmp i
    show OccV G (look (datT is l0) i) _
    rcases look_datT (is := is) l0 i with h1 | h1
    · rw [h1]; exact this
    · rw [h1]; exact occV_dat this

/-- The right to append to a slice that ends where its room ends. -/
theorem adopt {G : Gh} {h : List Box} {w : World} {l : List D} {t : Nat} {c : Value} (hh : HeapOK G h w) (hv : OccV G (.full l) c) (hk : G.k[t]? = some none) :
    ∃ G', HeapOK G' h w ∧ G'.k = G.k.set t (some l.length) ∧ Ext G G' w w ∧ OccV G' (.own l t) c := by
  have hlt : t < G.k.length := (List.getElem?_eq_some_iff.1 hk).1
  have hltk : t < G.tk.length := by rw [hh.tklen]; exact hlt
  have hA := occV_leaf hv rfl rfl
  have hocc : Occ G.K (.sl l) [c] := occA_toD (.full l) hA rfl
  obtain ⟨tk, ⟨hok, hcap, hsz⟩, his⟩ : ∃ tk : Tk, ((tk.base = none → l.length = 0) ∧ tk.cap = l.length ∧ (tk.base ≠ none → 0 < tk.sz)) ∧ tk.is G.K l c := by
    cases hA with
    | fulln => exact ⟨⟨none, 0, 0⟩, ⟨fun _ => rfl, rfl, fun h => absurd rfl h⟩, ⟨rfl, rfl⟩⟩
    | full hsz hr => rename_i b o sz; exact ⟨⟨some (b, o), l.length, sz⟩, ⟨(fun h => by cases h), rfl, fun _ => hsz⟩, ⟨rfl, hr⟩⟩
  have htok : tk.ok G l.length w := by
    unfold Tk.ok
    split
    · rename_i he; exact hok he
    · rename_i b o he
      exact ⟨⟨hsz (by rw [he]; simp), fun h => by rw [hcap]; exact h⟩, by omega, fun h => by omega⟩
  obtain ⟨h1, h2⟩ := set_tok (n := l.length) hh hlt htok (fun m e => by rw [hk] at e; cases e) (fun _ _ _ _ _ _ _ _ _ _ _ => .inl hcap.symm)
  refine ⟨G.setTok t tk l.length, h1, rfl, ⟨h2, rfl, rfl, rfl, Nat.le_refl _, fun _ _ _ => rfl, fun _ _ _ _ => rfl, fun blk _ ho => ?_, fun _ _ e => .inl e⟩, ?_⟩
  · rcases ho with ho | ⟨u, tk', n', o, e1, e2, e3, e4⟩
    · exact .inl ho
    · by_cases hu : t = u
      · subst hu
        simp only [Gh.setTok] at e1 e2
        rw [List.getElem?_set_self hltk] at e1
        rw [List.getElem?_set_self hlt] at e2
        injection e1 with e1
        injection e2 with e2
        injection e2 with e2
        subst e1 e2
        omega
      · simp only [Gh.setTok] at e1 e2
        rw [List.getElem?_set_ne hu] at e1 e2
        exact .inr ⟨u, tk', n', o, e1, e2, e3, e4⟩
  · exact .one rfl (.own (G := G.setTok t tk l.length) (n := l.length) (tk := tk) (by simp [Gh.setTok, hlt]) (Nat.le_refl _) (by simp [Gh.setTok, hltk]) (fun _ => his) hocc)
theorem wk_room (c : Nat) : Wk B (st n l0 h0 k0) (st n l0 h0 (k0 ++ List.replicate c none)) := by
  intro a w hi
  have := hi.reserve 0 c
  simpa [st] using this
def adT (t : Nat) (i : Nat) : List (Nat × AV) → List (Nat × AV)
  | [] => []
  | (j, v) :: r => (j, bif Nat.beq j i then (match v with | .full l => .own l t | v => v) else v) :: adT t i r
theorem look_adT {t i : Nat} : ∀ (l : List (Nat × AV)) (j : Nat), look (adT t i l) j = look l j ∨ (j = i ∧ ∃ d, look l j = .full d ∧ look (adT t i l) j = .own d t)
  | [], j => .inl rfl
  | (m, v) :: l, j => by
    simp only [adT, look]
    cases hb : Nat.beq j m with
    | false => exact look_adT l j
    | true =>
      have := Nat.eq_of_beq_eq_true hb
      subst this
      cases hi : Nat.beq j i with
      | false => exact .inl rfl
      | true =>
        have := Nat.eq_of_beq_eq_true hi
        subst this
        cases v with
        | full d => exact .inr ⟨rfl, d, rfl, rfl⟩
        | _ => exact .inl rfl
/-- A slice becomes one that is appended to. -/
theorem wk_adopt (i t : Nat) (d : List D) {l : List (Nat × AV)} {k : List (Option Nat)} (he : (look l0 i, k0[t]?, adT t i l0, k0.set t (some d.length)) = (.full d, some none, l, k)) : Wk B (st n l0 h0 k0) (st n l h0 k) := by
  simp only [Prod.mk.injEq] at he
  obtain ⟨h1, h2, rfl, rfl⟩ := he
  rintro a w ⟨G, hs, hx⟩
  have hi := hs.tmp i
  have hi : OccV G (look l0 i) _ := hi
  rw [h1] at hi
  have hk : G.k[t]? = some none := by rw [hs.k]; exact h2
  obtain ⟨G', g1, g2, g3, g4⟩ := adopt hs.heap hi hk
  refine ⟨G', ⟨g1, ?_, hs.defers, hs.size, fun j => ?_⟩, hx.trans g3⟩
  · rw [g2, hs.k]
    rfl
  · show OccV G' (look (adT t i l0) j) _
    rcases look_adT (t := t) (i := i) l0 j with h3 | ⟨rfl, d', h3, h4⟩
    · rw [h3]
      exact occV_le g3.le (hs.tmp j)
    · rw [h1] at h3
      cases h3
      rw [h4]
      exact g4
end
end Go.Am
