/- The abstract machine, part 12: regions in order; code; functions whose arguments and results are data. -/
import Derived.Test.YtbhgeilmhknnaaaGreatDoorAmRun
namespace Go.Am
section
variable {P : Program} {Z : Zeros P} {B : Base}

theorem Inv.put {s : AS} {a : Act} {w : World} (h : Inv B s a w) (d : Option Nat) : Inv B (s.put d (.tup [])) (a.put d undef) w := by
  obtain ⟨G, hs, hx⟩ := h
  exact ⟨G, hs.put d (occV_undef G), hx⟩
theorem Inv.reserve {s : AS} {a : Act} {w : World} (h : Inv B s a w) (x c : Nat) : Inv B { s with h := s.h ++ List.replicate x .hole, k := s.k ++ List.replicate c none } a w := by
  obtain ⟨G, hs, hx⟩ := h
  obtain ⟨h1, h2⟩ := Go.Am.reserve hs.heap x c
  exact ⟨_, hs.move h1 (by simp [Gh.more, hs.k]) h2.le, hx.trans h2⟩

theorem arun_list {ops : Array Oper} {Q : Exit → Act → World → Prop} : ∀ (rest : List Oper) (nb nk : Nat) (acc : List Ft) (s : AS) (K : List Ft → AS → Prop), ARun P Z ops.toList rest nb nk acc s K →
    ∀ (a : Act) (w : World), Inv B s a w → (∀ acc s' a' w', K acc s' → Inv B s' a' w' → Q .normal a' w') → wpList P ops Q rest a w
  | [], _, _, _, _, _, h, a, w, hi, hK => hK _ _ _ _ h hi
  | o :: rest, nb, nk, acc, s, K, h, a, w, hi, hK => by
    obtain ⟨g, hg, hf, ht⟩ := h
    obtain ⟨G, hs, hx⟩ := hi
    have hw := guard_sound hs hg
    have hi : Inv B s a w := ⟨G, hs, hx⟩
    unfold wpList
    rw [hw]
    cases g with
    | false =>
      rw [if_neg (by simp)]
      exact arun_list rest _ _ _ _ K (hf rfl) _ _ (hi.put o.dst) hK
    | true =>
      rw [if_pos rfl]
      refine .inl ?_
      have ht := ht rfl
      split at ht
      · rename_i f args hc
        obtain ⟨m, E, mt, T, r, E', T', h1, h2, h3, h4⟩ := ht
        exact call_sound hi hc (h3 _ _ h1 h2) fun a' w' hi' => arun_list rest _ _ _ _ K h4 a' w' hi' hK
      · obtain ⟨r, hr, h4⟩ := ht
        exact op_sound hi hr fun a' w' hi' => arun_list rest _ _ _ _ K h4 a' w' hi' hK

/-! ### code -/
def AWp (P : Program) (B : Base) (c : Code) (Q : Exit → AS → Prop) (s : AS) : Prop :=
  ∀ a w, Inv B s a w → c.wp P (fun e a' w' => ∃ s', Inv B s' a' w' ∧ Q e s') a w

variable {Q : Exit → AS → Prop} {s : AS}
theorem AWp.mono {Q' : Exit → AS → Prop} {c : Code} (h : AWp P B c Q s) (hq : ∀ e s, Q e s → Q' e s) : AWp P B c Q' s :=
  fun a w hi => wp_mono (h a w hi) fun _ _ _ ⟨s', h1, h2⟩ => ⟨s', h1, hq _ _ h2⟩
theorem aw_skip (h : Q .normal s) : AWp P B .skip Q s := fun _ _ hi => wp_skip ⟨s, hi, h⟩
theorem aw_label {l : Nat} (h : Q .normal s) : AWp P B (.label l) Q s := fun _ _ hi => wp_label ⟨s, hi, h⟩
theorem aw_ret (h : Q .ret s) : AWp P B .ret Q s := fun _ _ hi => wp_ret ⟨s, hi, h⟩
theorem aw_exit {i : Nat} (h : Q (.exit i) s) : AWp P B (.exit i) Q s := fun _ _ hi => wp_exit ⟨s, hi, h⟩
/-- What comes behind a piece of code. -/
def Then (K : AS → Prop) (Q : Exit → AS → Prop) : Exit → AS → Prop
  | .normal, s => K s
  | e, s => Q e s
theorem aw_seq {x y : Code} (h : AWp P B x (Then (AWp P B y Q) Q) s) : AWp P B (.seq x y) Q s := by
  intro a w hi
  refine wp_seq (wp_mono (h a w hi) fun e a' w' ⟨s', h1, h2⟩ => ?_)
  cases e with
  | normal => exact h2 a' w' h1
  | _ => exact ⟨s', h1, h2⟩
theorem aw_cond {c : Operand} {x y : Code} {b : Bool} (hc : s.ev c = .d (.bool b)) (ht : b = true → AWp P B x Q s) (hf : b = false → AWp P B y Q s) : AWp P B (.cond c x y) Q s := by
  intro a w hi
  obtain ⟨G, hs, hx⟩ := id hi
  have hv := hs.ev c
  rw [hc] at hv
  exact wp_cond_split (occV_bool hv) (fun e => ht e a w hi) (fun e => hf e a w hi)
/-- Leaving a block. -/
def InBlock (i : Nat) (Q : Exit → AS → Prop) : Exit → AS → Prop
  | .exit j, s => if j = i then Q .normal s else Q (.exit j) s
  | e, s => Q e s
theorem aw_block {i : Nat} {c : Code} (h : AWp P B c (InBlock i Q) s) : AWp P B (.block i c) Q s := by
  intro a w hi
  refine wp_block (wp_mono (h a w hi) fun e a' w' ⟨s', h1, h2⟩ => ?_)
  cases e with
  | exit j =>
    simp only [InBlock, Exit.inBlock] at h2 ⊢
    split
    · rename_i hj
      rw [if_pos hj] at h2
      exact ⟨s', h1, h2⟩
    · rename_i hj
      rw [if_neg hj] at h2
      exact ⟨s', h1, h2⟩
  | _ => exact ⟨s', h1, h2⟩

/-- A loop: what holds at the head of each round, with a number that falls. -/
theorem aw_loop {c : Code} (I : Nat → AS → Prop) (n : Nat) (h0 : I n s) (hr : ∀ m s, I m s → AWp P B c (Then (fun s' => ∃ m', m' < m ∧ I m' s') Q) s) : AWp P B (.loop c) Q s := by
  intro a w hi
  -- the least number that a state may have
  let good : Nat → Act → World → Prop := fun m a w => ∃ s, Inv B s a w ∧ I m s
  have hex : good n a w := ⟨s, hi, h0⟩
  have key : ∀ (m : Nat) (a : Act) (w : World), good m a w → ∃ m0, good m0 a w ∧ ∀ j, good j a w → m0 ≤ j := by
    intro m
    induction m using Nat.strongRecOn with
    | _ m ih =>
      intro a w hg
      by_cases hs : ∃ j, j < m ∧ good j a w
      · obtain ⟨j, hj, hgj⟩ := hs
        exact ih j hj a w hgj
      · exact ⟨m, hg, fun j hj => Nat.le_of_not_lt fun hlt => hs ⟨j, hlt, hj⟩⟩
  open Classical in
  let mu : Act → World → Nat := fun a w => if h : ∃ m, good m a w then (key h.choose a w h.choose_spec).choose else 0
  have hmu : ∀ (m : Nat) (a : Act) (w : World), good m a w → good (mu a w) a w ∧ mu a w ≤ m := by
    intro m a w hg
    have hex : ∃ m, good m a w := ⟨m, hg⟩
    simp only [mu, dif_pos hex]
    have := (key hex.choose a w hex.choose_spec).choose_spec
    exact ⟨this.1, this.2 m hg⟩
  refine wp_loop (fun a w => ∃ m, good m a w) mu ⟨n, hex⟩ (fun a w ⟨m, hg⟩ => ?_)
  obtain ⟨⟨s1, hi1, hI1⟩, _⟩ := hmu m a w hg
  refine wp_mono (hr _ _ hI1 a w hi1) fun e a' w' ⟨s', h1, h2⟩ => ?_
  cases e with
  | normal =>
    obtain ⟨m', hlt, hI'⟩ := h2
    have hg' : good m' a' w' := ⟨s', h1, hI'⟩
    exact ⟨⟨m', hg'⟩, Nat.lt_of_le_of_lt (hmu m' a' w' hg').2 hlt⟩
  | _ => exact ⟨s', h1, h2⟩

def nBoxes (ops : List Oper) : Nat := (ops.map fun o => boxesOf o.op).sum
def nToks (ops : List Oper) : Nat := (ops.map fun o => toksOf o.op).sum
/-- The state with room for what a region makes. -/
def AS.room (s : AS) (x c : Nat) : AS := { s with h := s.h ++ List.replicate x .hole, k := s.k ++ List.replicate c none }
theorem aw_region {id : Nat} {ops : Array Oper} (x c : Nat) (h : ARun P Z ops.toList ops.toList s.h.length s.k.length [] (s.room x c) (fun _ s' => Q .normal s')) : AWp P B (.region id ops false) Q s := by
  intro a w hi
  exact wp_region_list (arun_list (Q := fun e a' w' => ∃ s', Inv B s' a' w' ∧ Q e s') _ _ _ _ _ _ h a w (hi.reserve x c) fun _ s' a' w' hq hi' => ⟨s', hi', hq⟩)

/-! ### functions of data -/
mutual
/-- Nothing in it names a box or a token. -/
def AV.cl : AV → Bool
  | .any | .d _ | .full _ | .kp _ | .con _ => true
  | .own _ _ | .msl _ _ | .ptr _ _ | .eptr _ _ _ | .kpp _ _ | .ptrs _ => false
  | .agg l => AV.clL l
  | .tup l => AV.clL l
  | .fn _ l => AV.clL l
  | .iface _ x => x.cl
def AV.clL : List AV → Bool
  | [] => true
  | x :: l => x.cl && AV.clL l
end
theorem occA_cl {G G' : Gh} (g : ∀ b o v, G.K b o = some v → G'.K b o = some v) {v : AV} {cs : List Value} (h : OccA G v cs) : v.cl = true → OccA G' v cs :=
  OccA.rec (motive_1 := fun v cs _ => v.cl = true → OccA G' v cs) (motive_2 := fun v cs _ => AV.clL v = true → OccAL G' v cs) (motive_3 := fun v c _ => v.cl = true → OccV G' v c) (motive_4 := fun v c _ => AV.clL v = true → OccVL G' v c)
    (fun h _ => .d (occ_mono g h)) (fun _ => .fulln) (fun hsz h _ => .full hsz (occR_mono g h)) (fun _ _ _ _ _ hc => by cases hc)
    (fun _ _ hc => by cases hc) (fun _ hc => by cases hc) (fun _ hc => by cases hc)
    (fun h hk _ => .kp (occ_mono g h) (fun j v hj => g _ _ _ (hk j v hj))) (fun _ _ hc => by cases hc) (fun _ hc => by cases hc)
    (fun _ h hc => .agg (h hc)) (fun _ h hc => .fn (h hc)) (fun _ h hc => .iface (h hc)) (fun h _ => .con h) (fun _ => .nil)
    (fun _ _ h t hc => by simp only [AV.clL, Bool.and_eq_true] at hc; exact .cons (h hc.1) (t hc.2))
    (fun c _ => .any c) (fun ha _ h hc => .one ha (h hc)) (fun ha _ h hc => .agg ha (h hc)) (fun _ h hc => .tup (h hc)) (fun _ => .nil)
    (fun _ _ h t hc => by simp only [AV.clL, Bool.and_eq_true] at hc; exact .cons (h hc.1) (t hc.2)) h
theorem occV_cl {G G' : Gh} (g : ∀ b o v, G.K b o = some v → G'.K b o = some v) {v : AV} {c : Value} (h : OccV G v c) (hc : v.cl = true) : OccV G' v c := by
  cases h with
  | any => exact .any c
  | one ha h => exact .one ha (occA_cl g h hc)
  | agg ha h => exact .agg ha (occA_cl g h hc)
  | tup h =>
    rename_i l vs
    have : ∀ {l : List AV} {vs : List Value}, OccVL G l vs → AV.clL l = true → OccVL G' l vs := by
      intro l vs h
      exact OccVL.rec (motive_1 := fun v cs _ => v.cl = true → OccA G' v cs) (motive_2 := fun v cs _ => AV.clL v = true → OccAL G' v cs) (motive_3 := fun v c _ => v.cl = true → OccV G' v c) (motive_4 := fun v c _ => AV.clL v = true → OccVL G' v c)
        (fun h _ => .d (occ_mono g h)) (fun _ => .fulln) (fun hsz h _ => .full hsz (occR_mono g h)) (fun _ _ _ _ _ hc => by cases hc)
        (fun _ _ hc => by cases hc) (fun _ hc => by cases hc) (fun _ hc => by cases hc)
        (fun h hk _ => .kp (occ_mono g h) (fun j v hj => g _ _ _ (hk j v hj))) (fun _ _ hc => by cases hc) (fun _ hc => by cases hc)
        (fun _ h hc => .agg (h hc)) (fun _ h hc => .fn (h hc)) (fun _ h hc => .iface (h hc)) (fun h _ => .con h) (fun _ => .nil)
        (fun _ _ h t hc => by simp only [AV.clL, Bool.and_eq_true] at hc; exact .cons (h hc.1) (t hc.2))
        (fun c _ => .any c) (fun ha _ h hc => .one ha (h hc)) (fun ha _ h hc => .agg ha (h hc)) (fun _ h hc => .tup (h hc)) (fun _ => .nil)
        (fun _ _ h t hc => by simp only [AV.clL, Bool.and_eq_true] at hc; exact .cons (h hc.1) (t hc.2)) h
    exact .tup (this h hc)

/-- An argument that will do for another one: the same, or data of it. -/
inductive Fit : List AV → List AV → Prop where
  | nil : Fit [] []
  | same {x : AV} {l m : List AV} (h : Fit l m) : Fit (x :: l) (x :: m)
  | data {x : AV} {y : D} {l m : List AV} (e : x.toD = some y) (h : Fit l m) : Fit (x :: l) (.d y :: m)
theorem occV_data {G : Gh} {x : AV} {y : D} {c : Value} (h : OccV G x c) (e : x.toD = some y) : OccV G (.d y) c := by
  cases h with
  | any => simp [AV.toD] at e
  | one ha h => exact .one (by rw [show (AV.d y).isAgg = y.isAgg from rfl, (toD_size x e).2]; exact ha) (.d (occA_toD x h e))
  | agg ha h => exact .agg (by rw [show (AV.d y).isAgg = y.isAgg from rfl, (toD_size x e).2]; exact ha) (.d (occA_toD x h e))
  | tup h => simp [AV.toD] at e
theorem occVL_fit {G : Gh} : ∀ {l m : List AV} {cs : List Value}, Fit l m → OccVL G l cs → OccVL G m cs
  | _, _, _, .nil, .nil => .nil
  | _, _, _, .same h, .cons h1 h2 => .cons h1 (occVL_fit h h2)
  | _, _, _, .data e h, .cons h1 h2 => .cons (occV_data h1 e) (occVL_fit h h2)
theorem occVL_cl {G G' : Gh} (g : ∀ b o v, G.K b o = some v → G'.K b o = some v) : ∀ {l : List AV} {cs : List Value}, OccVL G l cs → AV.clL l = true → OccVL G' l cs
  | _, _, .nil, _ => .nil
  | _, _, .cons h t, hc => by
    simp only [AV.clL, Bool.and_eq_true] at hc
    exact .cons (occV_cl g h hc.1) (occVL_cl g t hc.2)

/-- A function of data: what it answers. -/
def VF (P : Program) (f : FuncId) (args : List AV) (r : AV) : Prop := CallOK P f args [] [] r [] []

theorem heap_none {G : Gh} {h : List Box} {w : World} (hh : HeapOK G h w) : HeapOK { K := G.K, mu := [], tk := [], k := [] } [] w where
  mulen := rfl
  tklen := rfl
  inj := fun b b' blk e => by simp at e
  lt := fun b blk e => by simp at e
  boxes := fun b x e => by simp at e
  know := hh.know
  tok := fun t tk n e => by simp at e
  tokinj := fun t t' tk tk' n n' b o o' _ e => by simp at e

/-- Nothing that others have is turned by a function of data. -/
theorem VF.loc {f : FuncId} {args args' : List AV} {r : AV} (h : VF P f args r) (hc : AV.clL args = true) (hr : r.cl = true) (hfit : Fit args' args) : CallL P f args' [] [] [] [] r [] [] := by
  intro hp k _ _
  refine ⟨h.1, fun G w cs hh hK hk hargs => ?_⟩
  have hnone := heap_none hh
  have ha : OccVL { K := G.K, mu := [], tk := [], k := [] } args cs := occVL_cl (G := G) (G' := { K := G.K, mu := [], tk := [], k := [] }) (fun _ _ _ e => e) (occVL_fit hfit hargs) hc
  refine (h.2 _ w cs hnone hK rfl ha).mono ?_
  rintro e w' ⟨G', v, rfl, h1, h2, h3, h4⟩
  have hown : ∀ blk, ¬ ({ K := G.K, mu := [], tk := [], k := [] } : Gh).owns blk := by
    rintro blk (⟨b, e⟩ | ⟨t, tk, n, o, e, _⟩) <;> simp at e
  have hle : G.le { G with K := G'.K } := ⟨h3.le.K, fun _ _ e => e, fun _ n e => ⟨n, e, Nat.le_refl _, fun _ => rfl, fun tk h => ⟨tk, h⟩⟩⟩
  refine ⟨{ G with K := G'.K }, v, rfl, ⟨hh.mulen, hh.tklen, hh.inj, fun b blk e => Nat.lt_of_lt_of_le (hh.lt b blk e) h3.size, fun b x hb => ?_, h1.know, fun t tk n e1 e2 => ?_, hh.tokinj⟩, hk,
    ⟨hle, h3.os, h3.tape, h3.output, h3.size, fun blk hb _ => h3.frame blk hb (hown blk), fun b o hb _ => h3.newK b o hb (hown b), fun _ _ h => h, fun _ _ h => .inl h⟩, occV_cl (G := G') (G' := { G with K := G'.K }) (fun _ _ _ e => e) h4 hr⟩
  · have hx := hh.boxes b x hb
    cases x with
    | hole => exact hx
    | var y =>
      obtain ⟨blk, c, ty, g1, g2, g3, g4⟩ := hx
      have hlt := hh.lt b blk g1
      exact ⟨blk, c, ty, g1, by rw [h3.frame blk hlt (hown blk)]; exact g2, occA_le hle g3, fun o => (h3.newK blk o hlt (hown blk)).trans (g4 o)⟩
    | row l sz =>
      obtain ⟨blk, c, ty, g1, g2, g3, g4, g5, g6⟩ := hx
      have hlt := hh.lt b blk g1
      exact ⟨blk, c, ty, g1, by rw [h3.frame blk hlt (hown blk)]; exact g2, occL_mono hle.K g3, g4, g5, fun o => (h3.newK blk o hlt (hown blk)).trans (g6 o)⟩
    | fz y =>
      obtain ⟨blk, c, g1, g2, g3⟩ := hx
      exact ⟨blk, c, g1, occ_mono hle.K g2, fun j u hj => hle.K _ _ _ (g3 j u hj)⟩
  · have := hh.tok t tk n e1 e2
    unfold Tk.ok at this ⊢
    split
    · rename_i he
      simpa [he] using this
    · rename_i b o he
      simp only [he] at this
      refine ⟨this.1, this.2.1, fun hn => ?_⟩
      obtain ⟨c, ty, g1, g2, g3, g4⟩ := this.2.2 hn
      have hlt : b < w.heap.size := (Array.getElem?_eq_some_iff.1 g1).1
      exact ⟨c, ty, by rw [h3.frame b hlt (hown b)]; exact g1, g2, fun j hj1 hj2 => (h3.newK b _ hlt (hown b)).trans (g3 j hj1 hj2), g4⟩
end
end Go.Am
