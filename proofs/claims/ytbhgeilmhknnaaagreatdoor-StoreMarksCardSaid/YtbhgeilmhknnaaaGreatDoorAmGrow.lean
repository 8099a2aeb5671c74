/- The abstract machine, part 8: append, make. -/
import Derived.Test.YtbhgeilmhknnaaaGreatDoorAmAlloc
import Derived.Deep.Upon
namespace Go.Am
section
variable {P : Program} {G : Gh} {h : List Box} {w : World}

theorem setCells_setRow (P : Program) {b o : Nat} {cs : Array Value} {ty : TypeId} {vs : List Value} (hw : w.heap[b]? = some (.cells cs ty (0, 0))) (hfit : o + vs.length ≤ cs.size) (h1 : ∀ v ∈ vs, v.oneCell' = true) : w.setCells b o vs = w.setRow b (splice cs.toList o vs).toArray := by
  have h2 := run_storeCells_at (P := P) b o ty vs 0 cs w hw (by omega) h1
  have h3 := run_storeCells_cells (P := P) b o vs 0 w
    (fun j hj => by rw [cell_cells hw, Nat.add_zero, Array.getElem?_eq_getElem (by omega)]; rfl)
    (fun j hj => by simp [World.frozen?, hw]) h1
  simp only [Nat.add_zero] at h2 h3
  rw [h3] at h2
  injection h2

def evApp (P : Program) (t tx : TypeId) (s x : AV) (k : List (Option Nat)) (nk : Nat) : Option OR :=
  match sle P t, sle P tx, x.items with
  | some (sz, _, by_), some _, some ys =>
    match s with
    | .full l =>
      if 0 < by_ ∧ (l.length + ys.length) * by_ ≤ 140737488355328 ∧ k[nk]? = some none ∧ l.all (fun y => y.size == sz) = true ∧ ys.all (fun y => y.size == sz) = true then some (.tok nk (l.length + ys.length) (.own (l ++ ys) nk)) else none
    | .own l u =>
      if 0 < by_ ∧ (l.length + ys.length) * by_ ≤ 140737488355328 ∧ k[u]? = some (some l.length) ∧ l.all (fun y => y.size == sz) = true ∧ ys.all (fun y => y.size == sz) = true then some (.tok u (l.length + ys.length) (.own (l ++ ys) u)) else none
    | _ => none
  | _, _, _ => none

theorem src_of {tx e' : TypeId} {x : AV} {ys : List D} {c : Value} {sz : Nat} (hh : HeapOK G h w) (hk : P.underlying tx = some (.slice e')) (hx : OccV G x c) (hi : x.items = some ys) (hs : ∀ y ∈ ys, y.size = sz) :
    ∃ cs, OccL G.K ys cs ∧ cs.length = ys.length * sz ∧ Src P sz tx c ys.length cs w := by
  rcases slice_spec (items_spec hx hi) with ⟨rfl, rfl⟩ | ⟨b, o, cap, sz', rfl, _, _, hr⟩
  · exact ⟨[], .nil, by simp, Src.ofNil w hk 0⟩
  · obtain ⟨cs, h1, h2, h3⟩ := occR_cells hr
    have hlen : cs.length = ys.length * sz := by
      cases ys with
      | nil => simpa using h2
      | cons y ys =>
        have := occR_sizes hr y (by simp)
        rw [hs y (by simp)] at this
        rw [h2, ← this]
    exact ⟨cs, h1, hlen, Src.ofSlice w hk ⟨b, o, none⟩ _ _ cs hlen (fun j u hj => by rw [add_lit]; exact hh.know _ _ _ (h3 j u hj)) (occL_size h1).2⟩

/-- What an append comes to, the new elements' cells known. -/
theorem app_core {t tx ty e : TypeId} {i : TypeInfo} {z : Value} {sz by_ : Nat} (hh : HeapOK G h w) (ht : P.underlying t = some (.slice e)) (hie : P.info? e = some i) (hz : i.zero = some z) (hzs : z.cells.size = sz) (his : i.size = sz) (hby : i.bytes = by_)
    (hsz : 0 < sz) (hb0 : 0 < by_) {c x : Value} {l ys : List D} {ns : List Value} {cap u : Nat} (hb : (l.length + ys.length) * by_ ≤ 140737488355328) (hs : Src P sz tx x ys.length ns w) (hns : OccL G.K ys ns)
    (hyl : ∀ y ∈ ys, y.size = sz) (hll : ∀ y ∈ l, y.size = sz) (hul : u < G.k.length) (base : Option (Nat × Nat)) (hc : c = .slice (base.map fun p => ⟨p.1, p.2, none⟩) l.length cap) (hbase : base = none → l = []) (hcap : cap < l.length + ys.length)
    (hocc : Occ G.K (.sl l) [c]) (hlt : ∀ m, G.k[u]? = some (some m) → m < l.length + ys.length) :
    Okay P (do pure (.value (← Builtin.append_ #[t, tx] ty #[c, x]))) G h w (.tok u (l.length + ys.length) (.own (l ++ ys) u)) := by
  have hle : (l.length + ys.length) ≤ 140737488355328 := Nat.le_trans (Nat.le_mul_of_pos_right _ hb0) hb
  have hold : ∃ os, OccL G.K l os ∧ os.length = l.length * sz ∧ (Builtin.firstCells i.size l.length (.slice (base.map fun p => ⟨p.1, p.2, none⟩) l.length cap)).run P w.drew = .ok os.toArray w.drew := by
    rcases slice_spec hocc with ⟨rfl, hc'⟩ | ⟨b, o, cap', sz', hc', _, _, hr⟩
    · cases base with
      | none => exact ⟨[], .nil, by simp, by simp [Builtin.firstCells]⟩
      | some p => exact ⟨[], .nil, by simp, by simp [Builtin.firstCells, loadCells, loadCellsFrom]⟩
    · rw [hc] at hc'
      injection hc' with hc1 hc2 hc3
      cases base with
      | none => cases hc1
      | some p =>
        simp only [Option.map_some, Option.some.injEq, Addr.mk.injEq] at hc1
        obtain ⟨h1, h2, _⟩ := hc1
        obtain ⟨os, g1, g2, g3⟩ := occR_cells hr
        have hlen : os.length = l.length * sz := by
          cases l with
          | nil => simpa using g2
          | cons y l =>
            have := occR_sizes hr y (by simp)
            rw [hll y (by simp)] at this
            rw [g2, ← this]
        refine ⟨os, g1, hlen, ?_⟩
        rw [his, Option.map_some]
        exact run_firstCells_some w.drew sz l.length _ l.length cap os hlen (fun j v hj => by
          rw [h1, h2, add_lit]
          exact hh.know _ _ _ (g3 j v hj))
  obtain ⟨os, ho1, ho2, ho3⟩ := hold
  have hfit : Builtin.nextslicecap (l.length + ys.length) cap * i.bytes ≤ 281474976710656 := by
    have h1 := Nat.mul_le_mul_right by_ (Go.Room.nextslicecap_le' hcap)
    rw [Nat.mul_assoc] at h1
    rw [hby]
    omega
  have hrun := run_append_grow_src (P := P) (w := w) t tx ty e i z ht hie hz (base.map fun p => ⟨p.1, p.2, none⟩) l.length cap os ho3 x ys.length ns (by rw [his]; exact hs) hcap (by omega) hfit
  have hgc := grownCap_ge w (l.length + ys.length) cap e
  generalize hG : grownCap w (l.length + ys.length) cap e = nc at hrun hgc
  have hnl : ns.length = ys.length * sz := hs.newsLen
  have hcs : (os ++ ns).length = (l.length + ys.length) * sz := by rw [List.length_append, ho2, hnl, Nat.add_mul]
  have hhd : HeapOK G h w.drew := hh.heap rfl
  obtain ⟨k1, k2⟩ := append_grow (w := w.drew) hhd (os ++ ns) ((os ++ ns).toArray ++ Builtin.zeroCells z.cells (nc - (l.length + ys.length))) e u (l.length + ys.length) nc sz hul hsz (by omega) hgc hcs
    (fun j v hj => by
      rw [Array.getElem?_append_left (by simpa using (List.getElem?_eq_some_iff.1 hj).1)]
      simpa using hj)
    (by
      rw [Array.size_append, List.size_toArray, hcs, size_zeroCells, hzs, ← Nat.add_mul]
      apply Nat.mul_le_mul_right
      omega)
    hlt
  have hd : Ext G G w w.drew := Ext.heap rfl rfl rfl rfl
  have hall : OccL G.K (l ++ ys) (os ++ ns) := occL_append ho1 hns
  have hK : ∀ b o v, G.K b o = some v → (G.K.put w.drew.heap.size 0 (os ++ ns)) b o = some v := Kn.put_le _ _ _ _ fun j _ => hhd.knew (Nat.le_refl _)
  have hrow : OccR (G.K.put w.drew.heap.size 0 (os ++ ns)) (l ++ ys) w.drew.heap.size 0 sz :=
    occR_of (occL_mono hK hall) (fun y hy => by
      rcases List.mem_append.1 hy with hy | hy
      · exact hll y hy
      · exact hyl y hy) (fun j v hj => Kn.put_in _ _ 0 _ hj)
  refine ⟨_, _, _, .slice (some ⟨w.heap.size, 0, none⟩) (l.length + ys.length) nc, by subst hc; simp only [Sem.run_bind, hrun, Result.andThen_ok, Sem.run_pure], .inl rfl, k1, ?_, hd.trans k2, ?_⟩
  · rfl
  · have hll' : (l ++ ys).length = l.length + ys.length := List.length_append
    refine .one rfl ?_
    rw [← hll']
    refine .own (n := l.length + ys.length) (tk := ⟨some (w.drew.heap.size, 0), nc, sz⟩) ?_ (by omega) ?_ (fun _ => ⟨rfl, hrow⟩) ?_
    · simp [Gh.setTok, hul]
    · have : u < G.tk.length := by rw [hh.tklen]; exact hul
      simp [Gh.setTok, this]
    · exact .sl hsz (by omega) hrow

theorem app_okay {t tx ty : TypeId} {s x : AV} {c cx : Value} {nk : Nat} {r : OR} (hh : HeapOK G h w) (hz : elemZero P t) (hs : OccV G s c) (hx : OccV G x cx) (e : evApp P t tx s x G.k nk = some r) :
    Okay P (do pure (.value (← Builtin.append_ #[t, tx] ty #[c, cx]))) G h w r := by
  unfold evApp at e
  split at e
  · rename_i sz a by_ p2 ys hsl hsl2 hys
    obtain ⟨el, hu, hl, hs0, hby⟩ := sle_spec hsl
    obtain ⟨el2, hu2, _, _, _⟩ := sle_spec (t := tx) (P := P) (s := p2.1) (a := p2.2.1) (by_ := p2.2.2) (by simpa using hsl2)
    obtain ⟨el', ie, z, hu', hie, hzz, hzs⟩ := hz
    rw [hu] at hu'
    injection hu' with hu'
    injection hu' with hu'
    subst hu'
    have hies : ie.size = sz := by
      have h5 := (lay_spec hl w).1
      simp [sizeOf, typeInfo, hie] at h5
      exact h5
    have hieb : ie.bytes = by_ := by simpa [Program.bytesOf, hie] using hby
    split at e
    · rename_i l
      split at e
      · rename_i hc
        obtain ⟨hb0, hb, hk, hla, hya⟩ := hc
        cases e
        have hla' : ∀ y ∈ l, y.size = sz := by simpa using hla
        have hya' : ∀ y ∈ ys, y.size = sz := by simpa using hya
        have hul : nk < G.k.length := (List.getElem?_eq_some_iff.1 hk).1
        obtain ⟨ns, n1, n2, n3⟩ := src_of (P := P) hh hu2 hx hys hya'
        have hnone : ∀ m, G.k[nk]? = some (some m) → False := fun m e => by rw [hk] at e; cases e
        by_cases hy0 : ys = []
        · -- nothing is appended
          subst hy0
          have hns : ns = [] := by cases n1; rfl
          subst hns
          cases occV_leaf hs rfl rfl with
          | fulln =>
            have hrun := run_append_nothing (P := P) w t tx ty el ie hu hie none 0 0 (by omega) cx (by rw [hies]; exact n3)
            obtain ⟨k1, k2⟩ := set_tok hh (t := nk) (tk := ⟨none, 0, 0⟩) (n := 0) hul rfl (fun m e => (hnone m e).elim) (fun t' tk' n' b o o' _ _ _ e1 _ => by cases e1)
            refine ⟨_, _, _, .slice none 0 0, by simp only [Sem.run_bind, hrun, Result.andThen_ok, Sem.run_pure]; first | done | rfl, .inl rfl, k1, rfl, ⟨k2, rfl, rfl, rfl, Nat.le_refl _, fun _ _ _ => rfl, fun _ _ _ _ => rfl, fun blk _ ho => ?_, fun _ _ e => .inl e⟩, ?_⟩
            · rcases ho with ⟨b, e⟩ | ⟨u, tk, m, o, e1, e2, e3, e4⟩
              · exact .inl ⟨b, e⟩
              · by_cases hun : nk = u
                · subst hun
                  simp only [Gh.setTok] at e1
                  rw [List.getElem?_set_self (by rw [hh.tklen]; exact hul)] at e1
                  injection e1 with e1
                  subst e1
                  cases e3
                · simp only [Gh.setTok] at e1 e2
                  rw [List.getElem?_set_ne hun] at e1 e2
                  exact .inr ⟨u, tk, m, o, e1, e2, e3, e4⟩
            · refine .one rfl (.own (n := 0) (tk := ⟨none, 0, 0⟩) (by simp [Gh.setTok, hul]) (by simp) (by simp [Gh.setTok, show nk < G.tk.length by rw [hh.tklen]; exact hul]) (fun _ => ⟨rfl, rfl⟩) .nils)
          | full hsz' hr =>
            rename_i b o sz'
            have hrun := run_append_nothing (P := P) w t tx ty el ie hu hie (some ⟨b, o, none⟩) l.length l.length (by omega) cx (by rw [hies]; exact n3)
            obtain ⟨k1, k2⟩ := set_tok hh (t := nk) (tk := ⟨some (b, o), l.length, sz'⟩) (n := l.length) hul ⟨⟨hsz', fun h => h⟩, Nat.le_refl _, fun h => absurd h (Nat.lt_irrefl _)⟩ (fun m e => (hnone m e).elim) (fun t' tk' n' b o o' _ _ _ _ _ => .inl rfl)
            refine ⟨_, _, _, .slice (some ⟨b, o, none⟩) l.length l.length, by simp only [Sem.run_bind, hrun, Result.andThen_ok, Sem.run_pure]; first | done | rfl, .inl rfl, k1, by simp [OR.k, Gh.setTok], ⟨k2, rfl, rfl, rfl, Nat.le_refl _, fun _ _ _ => rfl, fun _ _ _ _ => rfl, fun blk _ ho => ?_, fun _ _ e => .inl e⟩, ?_⟩
            · rcases ho with ⟨b, e⟩ | ⟨u, tk, m, o, e1, e2, e3, e4⟩
              · exact .inl ⟨b, e⟩
              · by_cases hun : nk = u
                · subst hun
                  simp only [Gh.setTok] at e1 e2
                  rw [List.getElem?_set_self (by rw [hh.tklen]; exact hul)] at e1
                  rw [List.getElem?_set_self hul] at e2
                  injection e1 with e1
                  injection e2 with e2
                  injection e2 with e2
                  subst e1
                  subst e2
                  exact absurd e4 (Nat.lt_irrefl _)
                · simp only [Gh.setTok] at e1 e2
                  rw [List.getElem?_set_ne hun] at e1 e2
                  exact .inr ⟨u, tk, m, o, e1, e2, e3, e4⟩
            · simp only [OR.v, List.append_nil]
              refine .one rfl (.own (n := l.length) (tk := ⟨some (b, o), l.length, sz'⟩) (by simp [Gh.setTok, hul]) (Nat.le_refl _) (by simp [Gh.setTok, show nk < G.tk.length by rw [hh.tklen]; exact hul]) (fun _ => ⟨rfl, hr⟩) (.sl hsz' (Nat.le_refl _) hr))
        · have hpos : 0 < ys.length := List.length_pos_iff.2 hy0
          have hocc := items_spec hs (l := l) rfl
          cases occV_leaf hs rfl rfl with
          | fulln => exact app_core (cap := 0) hh hu hie hzz (by omega) hies hieb (by omega) hb0 hb n3 n1 hya' hla' hul none rfl (fun _ => rfl) (by simp; omega) hocc (fun m e => (hnone m e).elim)
          | full hsz' hr =>
            rename_i b o sz'
            exact app_core (cap := l.length) hh hu hie hzz (by omega) hies hieb (by omega) hb0 hb n3 n1 hya' hla' hul (some (b, o)) rfl (fun h => by cases h) (by omega) hocc (fun m e => (hnone m e).elim)
      · cases e
    · rename_i l u
      split at e
      · rename_i hc
        obtain ⟨hb0, hb, hk, hla, hya⟩ := hc
        cases e
        have hla' : ∀ y ∈ l, y.size = sz := by simpa using hla
        have hya' : ∀ y ∈ ys, y.size = sz := by simpa using hya
        have hul : u < G.k.length := (List.getElem?_eq_some_iff.1 hk).1
        obtain ⟨ns, n1, n2, n3⟩ := src_of (P := P) hh hu2 hx hys hya'
        have hocc := items_spec hs (l := l) rfl
        cases occV_leaf hs rfl rfl with
        | own hn hl' htk hi h5 =>
          rename_i n tk
          rw [hk] at hn
          injection hn with hn
          injection hn with hn
          subst hn
          have his := hi rfl
          have htok := hh.tok u tk l.length htk hk
          by_cases hy0 : ys = []
          · subst hy0
            have hns : ns = [] := by cases n1; rfl
            subst hns
            have hset : G.k.set u (some (l.length + ([] : List D).length)) = G.k := by
              apply List.ext_getElem?
              intro j
              by_cases hj : u = j
              · subst hj
                rw [List.getElem?_set_self hul, hk]
                rfl
              · rw [List.getElem?_set_ne hj]
            refine ⟨.value c, w, G, c, ?_, .inl rfl, hh, hset.symm, .refl G w, ?_⟩
            · rcases slice_spec hocc with ⟨_, rfl⟩ | ⟨b, o, cap, sz', rfl, hcap, _, _⟩
              · have hrun := run_append_nothing (P := P) w t tx ty el ie hu hie none 0 0 (by omega) cx (by rw [hies]; exact n3)
                simp only [Sem.run_bind, hrun, Result.andThen_ok, Sem.run_pure]
              · have hrun := run_append_nothing (P := P) w t tx ty el ie hu hie (some ⟨b, o, none⟩) l.length cap hcap cx (by rw [hies]; exact n3)
                simp only [Sem.run_bind, hrun, Result.andThen_ok, Sem.run_pure]
            · simp only [OR.v, List.append_nil]
              exact hs
          · have hpos : 0 < ys.length := List.length_pos_iff.2 hy0
            cases hbase : tk.base with
            | none =>
              simp only [Tk.is, hbase] at his
              obtain ⟨rfl, rfl⟩ := his
              exact app_core (cap := 0) hh hu hie hzz (by omega) hies hieb (by omega) hb0 hb n3 n1 hya' hla' hul none rfl (fun _ => rfl) (by simp; omega) hocc (fun m e => by rw [hk] at e; injection e with e; injection e with e; subst e; simp; omega)
            | some bo =>
              obtain ⟨b, o⟩ := bo
              simp only [Tk.is, hbase] at his
              obtain ⟨hcv, hr⟩ := his
              simp only [Tk.ok, hbase] at htok
              obtain ⟨⟨hsz', hn0⟩, hcap', hfree⟩ := htok
              by_cases hroom : l.length + ys.length ≤ tk.cap
              · -- in place
                obtain ⟨cs, tyc, hw, hsize, _, _⟩ := hfree (by omega)
                have hl0 : l ≠ [] := fun h0 => by
                  subst h0
                  have := hn0 rfl
                  omega
                obtain ⟨y, hy⟩ := List.exists_mem_of_ne_nil l hl0
                have hszs : tk.sz = sz := by rw [← occR_sizes hr y hy, hla' y hy]
                have hvl : ns.length = (l.length + ys.length - l.length) * tk.sz := by rw [n2, hszs]; congr 1; omega
                obtain ⟨k1, k2⟩ := append_room hh (n := l.length + ys.length) (vs := ns) htk hk hbase (by omega) hroom hvl hw
                have hmul : (l.length + ys.length) * sz ≤ tk.cap * sz := Nat.mul_le_mul_right _ hroom
                have hmul2 : (l.length + ys.length) * sz = l.length * sz + ys.length * sz := Nat.add_mul _ _ _
                rw [hszs] at hsize k1 k2
                have hfit : o + l.length * sz + ns.length ≤ cs.size := by rw [n2]; omega
                have hrun := run_append_room_src (P := P) (w := w) t tx ty el ie hu hie b o l.length tk.cap cx ys.length ns (by rw [hies]; exact n3) hroom
                  (fun j hj => by rw [hies, cell_cells hw, Array.getElem?_eq_getElem (by omega)]; rfl) (fun j hj => by simp [World.frozen?, hw])
                rw [hies, setCells_setRow P hw hfit n3.one] at hrun
                have hK := k2.le.K
                have hrow : OccR (G.K.put b (o + l.length * sz) ns) (l ++ ys) b o sz := by
                  refine occR_append ?_ ?_
                  · have := occR_mono hK hr
                    rw [hszs] at this
                    exact this
                  · exact occR_of (occL_mono hK n1) hya' (fun j v hj => Kn.put_in _ _ _ _ hj)
                refine ⟨_, _, _, .slice (some ⟨b, o, none⟩) (l.length + ys.length) tk.cap, by subst hcv; simp only [Sem.run_bind, hrun, Result.andThen_ok, Sem.run_pure], .inl rfl, k1, rfl, k2, ?_⟩
                have hll' : (l ++ ys).length = l.length + ys.length := List.length_append
                refine .one rfl ?_
                rw [← hll']
                refine .own (n := l.length + ys.length) (tk := tk) (by simp [Gh.setTok, hul]) (by omega) (by simp [Gh.setTok, show u < G.tk.length by rw [hh.tklen]; exact hul]) (fun _ => ?_) (.sl (by omega) (by omega) hrow)
                simp only [Tk.is, hbase]
                exact ⟨trivial, by rw [hszs]; exact hrow⟩
              · exact app_core (cap := tk.cap) hh hu hie hzz (by omega) hies hieb (by omega) hb0 hb n3 n1 hya' hla' hul (some (b, o)) (by rw [hcv]; rfl) (fun h => by cases h) (by omega) hocc (fun m e => by rw [hk] at e; injection e with e; injection e with e; subst e; omega)
      · cases e
    · cases e
  · cases e
end
end Go.Am
