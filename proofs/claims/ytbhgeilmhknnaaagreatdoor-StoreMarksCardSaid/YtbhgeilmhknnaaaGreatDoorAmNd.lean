/- The abstract machine, part 26: answers that hang on an order that Go leaves open: one of two; loops walked round by round. -/
import Derived.Test.YtbhgeilmhknnaaaGreatDoorAmBelow
import Derived.LoopN
namespace Go.Am
/-- One of two. -/
def sel {α : Type} (b : Bool) (p : α × α) : α := bif b then p.1 else p.2
/-- Both answers, of both. -/
def Nd2 {α β : Type} (o : Option (α × α)) (k : α → Option β) : Option (β × β) :=
  match o with
  | some p => match k p.1, k p.2 with
    | some x, some y => some (x, y)
    | _, _ => none
  | none => none
/-- The answer, where both answer alike. -/
def Nd1 {α β : Type} [DecidableEq β] (o : Option (α × α)) (k : α → Option β) : Option β :=
  match o with
  | some p => match k p.1, k p.2 with
    | some x, some y => if x = y then some x else none
    | _, _ => none
  | none => none
theorem nd2_o {α β : Type} {o : Option (α × α)} {k : α → Option β} {r : β × β} (h : Nd2 o k = some r) : ∃ p, o = some p ∧ ∀ b x, x = sel b p → k x = some (sel b r) := by
  unfold Nd2 at h
  split at h
  · rename_i p
    split at h
    · rename_i x y h1 h2
      cases h
      exact ⟨p, rfl, fun b z hz => by subst hz; cases b <;> assumption⟩
    · cases h
  · cases h
theorem nd1_o {α β : Type} [DecidableEq β] {o : Option (α × α)} {k : α → Option β} {r : β} (h : Nd1 o k = some r) : ∃ p, o = some p ∧ ∀ b x, x = sel b p → k x = some r := by
  unfold Nd1 at h
  split at h
  · rename_i p
    split at h
    · rename_i x y h1 h2
      split at h
      · rename_i hxy
        cases h
        refine ⟨p, rfl, fun b z hz => ?_⟩
        subst hz
        cases b with
        | false => exact h2.trans (by rw [← hxy])
        | true => exact h1
      · cases h
    · cases h
  · cases h

/-- A function of data whose answer is one of two. -/
def VFo (P : Program) (f : FuncId) (args : List AV) (ρ : Bool → AV) : Prop :=
  enters P f = true ∧ ∀ (G : Gh) (w : World) (cs : List Value), HeapOK G [] w → KOK G → G.k = [] → OccVL G args cs →
    Calls P f cs.toArray w fun e w' => ∃ b G' v, e = .returned v ∧ HeapOK G' [] w' ∧ G'.k = [] ∧ Ext G G' w w' ∧ OccV G' (ρ b) v
theorem VF.o {P : Program} {f : FuncId} {args : List AV} {r : AV} {ρ : Bool → AV} (h : VF P f args r) (hr : ∀ b, ρ b = r) : VFo P f args ρ :=
  ⟨h.1, fun G w cs h1 h2 h3 h4 => (h.2 G w cs h1 h2 h3 h4).mono fun _ _ ⟨G', v, q1, q2, q3, q4, q5⟩ => ⟨true, G', v, q1, q2, q3, q4, by rw [hr]; exact q5⟩⟩

/-- Nothing that others have is turned by it. -/
theorem VFo.loc {P : Program} {f : FuncId} {args args' : List AV} {ρ : Bool → AV} (h : VFo P f args ρ) (hc : AV.clL args = true) (hr : ∀ b, (ρ b).cl = true) (hfit : Fit args' args) :
    enters P f = true ∧ ∀ (hp : List Box) (k : List (Option Nat)) (G : Gh) (w : World) (cs : List Value), HeapOK G hp w → KOK G → G.k = k → OccVL G args' cs →
      Calls P f cs.toArray w fun e w' => ∃ b G' v, e = .returned v ∧ HeapOK G' hp w' ∧ G'.k = k ∧ Ext G G' w w' ∧ OccV G' (ρ b) v := by
  refine ⟨h.1, fun hp k G w cs hh hK hk hargs => ?_⟩
  have hnone := heap_none hh
  have ha : OccVL { K := G.K, mu := [], tk := [], k := [] } args cs := occVL_cl (G := G) (G' := { K := G.K, mu := [], tk := [], k := [] }) (fun _ _ _ e => e) (occVL_fit hfit hargs) hc
  refine (h.2 _ w cs hnone hK rfl ha).mono ?_
  rintro e w' ⟨b, G', v, rfl, h1, h2, h3, h4⟩
  have hown : ∀ blk, ¬ ({ K := G.K, mu := [], tk := [], k := [] } : Gh).owns blk := by
    rintro blk (⟨b, e⟩ | ⟨t, tk, n, o, e, _⟩) <;> simp at e
  have hle : G.le { G with K := G'.K } := ⟨h3.le.K, fun _ _ e => e, fun _ n e => ⟨n, e, Nat.le_refl _, fun _ => rfl, fun tk h => ⟨tk, h⟩⟩⟩
  refine ⟨b, { G with K := G'.K }, v, rfl, ⟨hh.mulen, hh.tklen, hh.inj, fun b blk e => Nat.lt_of_lt_of_le (hh.lt b blk e) h3.size, fun b x hb => ?_, h1.know, fun t tk n e1 e2 => ?_, hh.tokinj⟩, hk,
    ⟨hle, h3.os, h3.tape, h3.output, h3.size, fun blk hb _ => h3.frame blk hb (hown blk), fun b o hb _ => h3.newK b o hb (hown b), fun _ _ h => h, fun _ _ h => .inl h⟩, occV_cl (G := G') (G' := { G with K := G'.K }) (fun _ _ _ e => e) h4 (hr b)⟩
  · have hx := hh.boxes b x hb
    cases x with
    | hole => exact hx
    | var y =>
      obtain ⟨blk, c, ty, g1, g2, g3, g4⟩ := hx
      have hlt := hh.lt b blk g1
      exact ⟨blk, c, ty, g1, by rw [h3.frame blk hlt (hown blk)]; exact g2, occA_le hle g3, fun o => (h3.newK blk o hlt (hown blk)).trans (g4 o)⟩
    | row l sz =>
      obtain ⟨blk, c, ty, g1, g2, g3, g4, g5, g6⟩ := hx
      have hlt := hh.lt b blk g1
      exact ⟨blk, c, ty, g1, by rw [h3.frame blk hlt (hown blk)]; exact g2, occL_mono hle.K g3, g4, g5, fun o => (h3.newK blk o hlt (hown blk)).trans (g6 o)⟩
    | fz y =>
      obtain ⟨blk, c, g1, g2, g3⟩ := hx
      exact ⟨blk, c, g1, occ_mono hle.K g2, fun j u hj => hle.K _ _ _ (g3 j u hj)⟩
  · have := hh.tok t tk n e1 e2
    unfold Tk.ok at this ⊢
    split
    · rename_i he
      simpa [he] using this
    · rename_i b o he
      simp only [he] at this
      refine ⟨this.1, this.2.1, fun hn => ?_⟩
      obtain ⟨c, ty, g1, g2, g3, g4⟩ := this.2.2 hn
      have hlt : b < w.heap.size := (Array.getElem?_eq_some_iff.1 g1).1
      exact ⟨c, ty, by rw [h3.frame b hlt (hown b)]; exact g1, g2, fun j hj1 hj2 => (h3.newK b _ hlt (hown b)).trans (g3 j hj1 hj2), g4⟩

section
variable {P : Program} {Z : Zeros P} {B : Base} {Q : Exit → AS → Prop} {n : Nat} {l0 : List (Nat × AV)} {h0 : List Box} {k0 : List (Option Nat)}
theorem call_sound_o {o : Oper} {f : FuncId} {args args' : List AV} {ρ : Bool → AV} {s : AS} {a : Act} {w : World} {Q : Exit → Act → World → Prop} {K : Act → World → Prop} (h : Inv B s a w) (hc : callOf s o.op = some (f, args'))
    (hv : VFo P f args ρ) (hcl : AV.clL args = true) (hr : ∀ b, (ρ b).cl = true) (hfit : Fit args' args) (hK : ∀ b a' w', Inv B (s.put o.dst (ρ b)) a' w' → K a' w') : o.wp P a w K Q := by
  obtain ⟨G, hs, hx⟩ := h
  unfold callOf at hc
  split at hc
  · rename_i c hop
    split at hc
    · rename_i x hcal
      split at hc
      · rename_i f' cap hev
        simp only [Option.some.injEq, Prod.mk.injEq] at hc
        obtain ⟨rfl, rfl⟩ := hc
        obtain ⟨hent, hok⟩ := hv.loc hcl hr hfit
        have hxv := hs.ev x
        rw [hev] at hxv
        obtain ⟨vs, heq, hvs⟩ : ∃ vs, a.eval x = .func (.func f') #[] vs.toArray ∧ OccVL G cap vs := by
          generalize a.eval x = c at hxv
          cases occV_leaf hxv rfl rfl with
          | fn h => exact ⟨_, rfl, h⟩
        have hargs := occVL_of hs.ev c.args.toList
        have hall : OccVL G (c.args.toList.map s.ev ++ cap) (c.args.toList.map a.eval ++ vs) := by
          clear hK hfit
          generalize c.args.toList.map s.ev = l1 at hargs ⊢
          generalize c.args.toList.map a.eval = l2 at hargs ⊢
          induction l1 generalizing l2 with
          | nil => cases hargs; exact hvs
          | cons y l1 ih => cases hargs with
            | cons h1 h2 => exact .cons h1 (ih _ h2)
        have hcalls := hok _ _ G w _ hs.heap (B.ok.le hx.le) hs.k hall
        unfold enters at hent
        split at hent
        · rename_i fn hfn
          simp only [Bool.and_eq_true, Bool.not_eq_true', Option.isSome_iff_exists, beq_eq_false_iff_ne, ne_eq] at hent
          obtain ⟨⟨body, hbody⟩, hname⟩ := hent
          have hcf : ∀ as : Array Value, (callFunc f' as).run P w = .ok (.enter f' as) w := by
            intro as
            simp [callFunc, hfn, hbody, hname]
          have hrun : (execOp a.eval o).run P w = .ok (.enter f' (c.args.toList.map a.eval ++ vs).toArray) w := by
            unfold execOp
            rw [hop]
            simp [resolve, hcal, heq, Deferred.ofValue, invoke, hcf]
          unfold Oper.wp
          rw [hrun, Oper.upon_enter]
          refine hcalls.mono ?_
          rintro e w' ⟨b, G', v, rfl, h1, h2, h3, h4⟩
          have hm : Sim G' { s with h := s.h, k := s.k } a w' := hs.move h1 h2 h3.le
          exact hK b _ _ ⟨G', hm.put o.dst h4, hx.trans h3⟩
        · cases hent
      · cases hc
    · cases hc
  · cases hc

/-- What is left of a region, in order. -/
def LWp (P : Program) (B : Base) (Q : Exit → AS → Prop) (ops : Array Oper) (j : Nat) (s : AS) : Prop :=
  ∀ a w, Inv B s a w → wpList P ops (fun e a' w' => ∃ s', Inv B s' a' w' ∧ Q e s') (ops.toList.drop j) a w
theorem chain_pre {ops : List Oper} {Q : Exit → Act → World → Prop} {pre : List Oper} {evs : List Ev} {s s' : AS} (rest : List Oper) (h : Chain P B ops pre evs s s') :
    ∀ (a : Act) (w : World), Inv B s a w → (∀ a' w', Inv B s' a' w' → wpList P ops.toArray Q rest a' w') → wpList P ops.toArray Q (pre ++ rest) a w := by
  induction h with
  | nil => intro a w hi hK; exact hK _ _ hi
  | cons h t ih =>
    rename_i o e os es s s'
    intro a w hi hK
    have := h _ a w (wpList P ops.toArray Q (os ++ rest)) Q (Agree.refl _ _) hi fun a' w' hi' => ih a' w' hi' hK
    show wpList P ops.toArray Q (o :: (os ++ rest)) a w
    unfold wpList
    split at this
    · rename_i hw
      rw [if_pos hw]
      exact .inl this
    · rename_i hw
      rw [if_neg hw]
      exact this
def preX (P : Program) (Z : Zeros P) (ops : List Oper) (j : Nat) (s : AS) (x c : Nat) (orcs : List (Nat × Orc)) (l : List (Nat × AV)) : Option (List Lg × List AV × List Box × List (Option Nat)) :=
  match runX P Z ops (ops.take j) 0 s.h.length s.k.length (s.room x c) orcs with
  | some (lgs, _, s') => some (lgs, l.map (fun q => s'.t q.1), s'.h, s'.k)
  | none => none
def ndX (ops : List Oper) (j : Nat) (s : AS) : Option (FuncId × List AV × Nat) :=
  match ops[j]? with
  | some o => match guardOf ops s o.guard, callOf s o.op, o.dst with
    | some true, some (f, args), some d => bif decide (d < s.n) then some (f, args.map AV.dat, d) else none
    | _, _, _ => none
  | none => none
theorem rg_nd {rid : Nat} {ops : Array Oper} (x c j d : Nat) (orcs : List (Nat × Orc)) (lgs : List Lg) (l : List (Nat × AV)) (h : List Box) (k : List (Option Nat)) {f : FuncId} {args : List AV} (ρ : Bool → AV)
    (hr : preX P Z ops.toList j (st n l0 h0 k0) x c orcs l = some (lgs, l.map Prod.snd, h, k)) (hg : Good P orcs lgs) (hc : ndX ops.toList j (st n l h k) = some (f, args, d)) (hv : VFo P f args ρ) (hcl : AV.clL args = true) (hcr : ∀ b, (ρ b).cl = true)
    (hq : ∀ b, LWp P B Q ops (j + 1) (st n ((d, ρ b) :: l) h k)) : AWp P B (.region rid ops false) Q (st n l0 h0 k0) := by
  intro a w hi
  unfold preX at hr
  split at hr
  · rename_i lgs' evs s' hrun
    simp only [Option.some.injEq, Prod.mk.injEq] at hr
    obtain ⟨rfl, hl, hh, hk⟩ := hr
    have hch : Chain P B ops.toList (ops.toList.take j) evs ((st n l0 h0 k0).room x c) s' := chain_run _ _ _ _ _ _ _ _ _ hrun hg
    refine wp_region_list ?_
    have := chain_pre (Q := fun e a' w' => ∃ s', Inv B s' a' w' ∧ Q e s') (ops.toList.drop j) hch a w (hi.reserve x c) ?_
    · rw [Array.toArray_toList, List.take_append_drop] at this
      exact this
    · intro a' w' hi'
      have hi2 : Inv B (st n l h k) a' w' := inv_st hi' (chain_n hch) hl hh hk
      unfold ndX at hc
      split at hc
      · rename_i o ho
        split at hc
        · rename_i f' args' d' hgd hcl' hdst
          cases hd : decide (d' < (st n l h k).n) with
          | false => rw [hd] at hc; cases hc
          | true =>
            rw [hd] at hc
            simp only [cond_true, Option.some.injEq, Prod.mk.injEq] at hc
            obtain ⟨rfl, rfl, rfl⟩ := hc
            have hjl : j < ops.toList.length := (List.getElem?_eq_some_iff.1 ho).1
            have hdrop : ops.toList.drop j = o :: ops.toList.drop (j + 1) := by
              rw [List.drop_eq_getElem_cons hjl]
              congr 1
              have := (List.getElem?_eq_some_iff.1 ho).2
              exact this
            rw [hdrop, Array.toArray_toList]
            unfold wpList
            obtain ⟨G, hs, hx⟩ := id hi2
            rw [guard_sound hs hgd, if_pos rfl]
            refine .inl (call_sound_o hi2 hcl' hv hcl hcr (fit_dat args') fun b a'' w'' hi'' => ?_)
            refine hq b a'' w'' ?_
            rw [hdst] at hi''
            obtain ⟨G2, hs2, hx2⟩ := hi''
            refine ⟨G2, ⟨hs2.heap, hs2.k, hs2.defers, hs2.size, fun i => ?_⟩, hx2⟩
            have ht := hs2.tmp i
            simp only [AS.put] at ht
            show OccV G2 (bif Nat.beq i d' then ρ b else look l i) _
            simp only [decide_eq_true_eq] at hd
            by_cases hid : i = d'
            · subst hid
              rw [if_pos ⟨rfl, hd⟩] at ht
              rw [show Nat.beq i i = true from Nat.beq_refl i]
              exact ht
            · rw [if_neg (fun h => hid h.1)] at ht
              rw [show Nat.beq i d' = false from Bool.eq_false_iff.2 fun h => hid (Nat.eq_of_beq_eq_true h)]
              exact ht
        · cases hc
      · cases hc
  · cases hr
def postX (P : Program) (Z : Zeros P) (ops : List Oper) (j nb nk : Nat) (s : AS) (orcs : List (Nat × Orc)) (l : List (Nat × AV)) : Option (List Lg × List AV × List Box × List (Option Nat)) :=
  match runX P Z ops (ops.drop j) j nb nk s orcs with
  | some (lgs, _, s') => some (lgs, l.map (fun q => s'.t q.1), s'.h, s'.k)
  | none => none
theorem rg_tl {ops : Array Oper} {j : Nat} (nb nk : Nat) (orcs : List (Nat × Orc)) (lgs : List Lg) (l : List (Nat × AV)) (h : List Box) (k : List (Option Nat))
    (hr : postX P Z ops.toList j nb nk (st n l0 h0 k0) orcs l = some (lgs, l.map Prod.snd, h, k)) (hg : Good P orcs lgs) (hq : Q .normal (st n l h k)) : LWp P B Q ops j (st n l0 h0 k0) := by
  intro a w hi
  unfold postX at hr
  split at hr
  · rename_i lgs' evs s' hrun
    simp only [Option.some.injEq, Prod.mk.injEq] at hr
    obtain ⟨rfl, hl, hh, hk⟩ := hr
    have hch : Chain P B ops.toList (ops.toList.drop j) evs (st n l0 h0 k0) s' := chain_run _ _ _ _ _ _ _ _ _ hrun hg
    have := chain_list (Q := fun e a' w' => ∃ s', Inv B s' a' w' ∧ Q e s') hch a w hi fun a' w' hi' => ⟨_, inv_st hi' (chain_n hch) hl hh hk, hq⟩
    rw [Array.toArray_toList] at this
    exact this
  · cases hr

/-! ### loops, round by round -/
def ARds (P : Program) (B : Base) (c : Code) (Q : Exit → AS → Prop) : Nat → AS → Prop
  | 0, _ => False
  | m + 1, s => AWp P B c (Then (ARds P B c Q m) Q) s
theorem aw_rounds {c : Code} {s : AS} (m : Nat) (h : ARds P B c Q m s) : AWp P B (.loop c) Q s := by
  intro a w hi
  refine wp_loop_rounds m ?_
  have key : ∀ (m : Nat) (s : AS) (a : Act) (w : World), ARds P B c Q m s → Inv B s a w → Code.rounds P c (fun e a' w' => ∃ s', Inv B s' a' w' ∧ Q e s') m a w := by
    intro m
    induction m with
    | zero => intro s a w h; exact h.elim
    | succ m ih =>
      intro s a w h hi
      rw [rounds_succ]
      refine wp_mono (h a w hi) ?_
      rintro e a' w' ⟨s', h1, h2⟩
      cases e with
      | normal => exact ih s' a' w' h2 h1
      | _ => exact ⟨s', h1, h2⟩
  exact key m s a w h hi
theorem ards {c : Code} {s : AS} {m : Nat} (h : AWp P B c (Then (ARds P B c Q m) Q) s) : ARds P B c Q (m + 1) s := h

/-! ### functions whose answer is one of two -/
theorem fn_ok_o {f : FuncId} {fn : Func} {c : Code} {args : List AV} {rs : Bool → List AV} (hf : P.funcs[f]? = some fn) (hb : fn.body = some c)
    (hent : enters P f = true) (hn : args.length ≤ fn.ntmps) (hw : ∀ B, BOK B 0 0 → AWp P B c (fun e s => ∃ b, Leave P fn 0 0 (rs b) [] [] e s) (st fn.ntmps (argsT 0 args) [] [])) : VFo P f args (fun b => single (rs b)) := by
  refine ⟨hent, fun G w cs hh hK hk hargs => ?_⟩
  refine calls_of_wp hf hb ?_
  have hlen := occVL_len hargs
  have hinv : Inv ⟨G, w, hK⟩ (st fn.ntmps (argsT 0 args) [] []) { tmps := cs.toArray ++ Array.replicate (fn.ntmps - cs.toArray.size) undef, defers := [] } w := by
    refine ⟨G, ⟨hh, hk, rfl, ?_, fun i => ?_⟩, .refl _ _⟩
    · simp [st]
      omega
    · show OccV G (look (argsT 0 args) i) _
      rw [look_args, if_pos (Nat.zero_le _), Nat.sub_zero]
      have := occVL_getD hargs i
      by_cases hi : i < cs.length
      · simp only [Array.getD_eq_getD_getElem?]
        rw [Array.getElem?_append_left (by simpa using hi)]
        simpa using this
      · rw [List.getD_eq_getElem?_getD, List.getElem?_eq_none (by omega)]
        exact .any _
  refine wp_mono (hw ⟨G, w, hK⟩ ⟨hh.mulen, by show G.k.length = 0; rw [hk]; rfl, by show G.tk.length = 0; rw [hh.tklen, hk]; rfl⟩ _ _ hinv) ?_
  rintro e a' w' ⟨s', ⟨G', hs, hx⟩, b, he, vs, hret, hfit, ⟨bs, hh'⟩, hk', hbr, hbh⟩
  obtain ⟨u, h1, h2⟩ := ret_ok hs hret
  have hpost : ∃ v, (results fn a'.tmps).run P w' = .ok v w' ∧ ∃ b G' v', Ending.returned v = .returned v' ∧ HeapOK G' [] w' ∧ G'.k = [] ∧ Ext G G' w w' ∧ OccV G' (single (rs b)) v' := by
    refine ⟨u, h1, b, G'.cut 0 0, u, rfl, ?_, ?_, ?_, ?_⟩
    · rw [← hh']
      exact heap_dat (heap_cut hs.heap hbh) (datB_len _ _) fun b y hy => datB_get _ _ _ _ hy
    · rfl
    · exact ext_cut hx (Nat.le_of_eq hh.mulen) (by rw [hk]; exact Nat.le_refl _) (by rw [hh.tklen, hk]; exact Nat.le_refl _)
    · refine occV_cut ?_ ?_
      · cases h2' : vs with
        | nil => subst h2'; generalize rs b = rb at hfit ⊢; cases hfit; exact h2
        | cons x l =>
          subst h2'
          generalize rs b = rb at hfit hbr ⊢
          have key : ∀ {us : List Value}, OccVL G' (x :: l) us → OccVL G' rb us := fun h => occVL_fit hfit h
          cases l with
          | nil =>
            cases hfit with
            | same h => cases h; exact h2
            | data e h => cases h; exact occV_data h2 e
          | cons y l =>
            have h2 : OccV G' (.tup (x :: y :: l)) u := h2
            have : ∃ us, u = .tuple us.toArray ∧ OccVL G' (x :: y :: l) us := by
              cases h2 with
              | tup h => exact ⟨_, rfl, h⟩
              | one _ h => cases h
              | agg h _ => cases h
            obtain ⟨us, rfl, h3⟩ := this
            have h4 := key h3
            have hl2 := (occVL_len h4).trans (occVL_len h3).symm
            match rb, hl2 with
            | r1 :: r2 :: rs, _ => exact .tup h4
      · generalize rs b = rb at hbr ⊢
        match rb, hbr with
        | [], h => rfl
        | [x], h => simpa [AV.bndL, single] using h
        | x :: y :: l, h => exact h
  obtain ⟨v, hr, hR⟩ := hpost
  rcases he with rfl | rfl
  · exact ⟨hs.defers, v, hr, hR⟩
  · exact ⟨hs.defers, v, hr, hR⟩
/-- The end of such a function. -/
theorem lv_o {R : Type} {fn : Func} (F : R → List AV) {r : R × R} {b : Bool} {t : R} {e : Exit} {s : AS} (he : e = .normal ∨ e = .ret) (ht : t = sel b r) (fs : List Bool) (h : lvX P fn.results.toList s 0 0 fs [] = some (F t, [], [], true)) : ∃ b, Leave P fn 0 0 (F (sel b r)) [] [] e s :=
  ⟨b, by rw [← ht]; exact leave he fs [] h⟩
theorem lv_o2 {R : Type} {fn : Func} (F : R → List AV) {r : R × R} {t : R} {e : Exit} {s : AS} (he : e = .normal ∨ e = .ret) (ht : (t, t) = r) (fs : List Bool) (h : lvX P fn.results.toList s 0 0 fs [] = some (F t, [], [], true)) : ∃ b, Leave P fn 0 0 (F (sel b r)) [] [] e s :=
  lv_o (b := true) F he (by rw [← ht]; rfl) fs h
end
end Go.Am
