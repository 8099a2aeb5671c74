/- The abstract machine, part 5: operations that only compute. -/
import Derived.Test.YtbhgeilmhknnaaaGreatDoorAmOps
namespace Go.Am
section
variable {P : Program} {G : Gh} {h : List Box} {w : World}

/-! ### equality of data -/
mutual
def D.beq : D → D → Bool
  | .bool a, .bool b => a == b
  | .int _ a, .int _ b => a == b
  | .str a, .str b => a == b
  | .agg l, .agg m => D.beqL l m
  | _, _ => false
def D.beqL : List D → List D → Bool
  | [], [] => true
  | x :: l, y :: m => D.beq x y && D.beqL l m
  | _, _ => false
end
def fitsS (P : Program) (F : TypeId → D → Bool) : List Field → List D → Nat → Bool
  | [], [], _ => true
  | f :: fs, x :: l, off => f.name != "_" && f.offset == off && lay P f.type == some (x.size, x.isAgg) && F f.type x && fitsS P F fs l (off + x.size)
  | _, _, _ => false
/-- Data that are of a type which is compared part by part. -/
def fits (P : Program) : Nat → TypeId → D → Bool
  | 0, _, _ => false
  | n + 1, t, x =>
    match P.underlying t, x with
    | some .bool, .bool _ => true
    | some .string, .str _ => true
    | some (.int k), .int k' _ => decide (k = k')
    | some (.struct fs), .agg l => !P.stoodInHeld t && fitsS P (fits P n) fs.toList l 0
    | some (.array m e), .agg l => (P.info? e).isSome && decide (l.length = m) && l.all fun x => lay P e == some (x.size, x.isAgg) && fits P n e x
    | _, _ => false

def asV (x : D) (cs : List Value) : Value := if x.isAgg = true then .agg cs.toArray else cs.headD undef

theorem occ_leaf {K : Kn} {x : D} {cs : List Value} (h : Occ K x cs) (ha : x.isAgg = false) : ∃ c, cs = [c] := by
  cases h <;> first | exact ⟨_, rfl⟩ | simp [D.isAgg] at ha

theorem part_ok {K : Kn} {t : TypeId} {x : D} {xs : Array Value} {off : Nat} {cs : List Value} (hl : lay P t = some (x.size, x.isAgg)) (hx : Occ K x cs) (hc : cs = (xs.toList.drop off).take x.size) : (part t xs off).run P w = .ok (asV x cs) w := by
  obtain ⟨h1, h2⟩ := lay_spec hl w
  cases ha : x.isAgg with
  | true =>
    rw [ha] at h2
    simp only [part, Sem.run_bind, h1, h2, Result.andThen_ok, if_true, Sem.run_pure, asV, ha]
    congr 2
    apply Array.ext'
    rw [hc]
    simp [Array.toList_extract]
  | false =>
    rw [ha] at h2
    obtain ⟨c, rfl⟩ := occ_leaf hx ha
    have hs := (occ_size hx).1
    have h3 : xs[off]? = some c := by
      have := congrArg (fun l : List Value => l[0]?) hc
      simp only [List.getElem?_cons_zero] at this
      rw [List.getElem?_take, List.getElem?_drop] at this
      simp only [List.length_singleton] at hs
      rw [if_pos (by omega), Nat.add_zero] at this
      simpa using this.symm
    simp [part, h2, h3, asV, ha]

theorem toList_mk (l : List UInt8) : (ByteArray.mk l.toArray).toList = l := ByteArray.toList_mk l

theorem eqFields_ok {K : Kn} {n d : Nat} (ih : ∀ (t : TypeId) (x y : D) (xs ys : List Value), fits P n t x = true → fits P n t y = true → Occ K x xs → Occ K y ys → (Op.equalIn (n + d) t (asV x xs) (asV y ys)).run P w = .ok (D.beq x y) w)
    (xs ys : Array Value) : ∀ (fs : List Field) (l m : List D) (off : Nat) (cs ds : List Value), fitsS P (fits P n) fs l off = true → fitsS P (fits P n) fs m off = true → OccL K l cs → OccL K m ds → cs = xs.toList.drop off → ds = ys.toList.drop off →
    (Op.eqFields (n + d) xs ys fs).run P w = .ok (D.beqL l m) w
  | [], l, m, off, cs, ds, h1, h2, _, _, _, _ => by
    cases l <;> cases m <;> simp [fitsS] at h1 h2
    simp [Op.eqFields, D.beqL]
  | f :: fs, [], _, off, _, _, h1, _, _, _, _, _ => by simp [fitsS] at h1
  | f :: fs, x :: l, [], off, _, _, _, h2, _, _, _, _ => by simp [fitsS] at h2
  | f :: fs, x :: l, y :: m, off, _, _, h1, h2, .cons (cs := cx) (ds := cl) ha hb, .cons (cs := cy) (ds := cm) hc hd, e1, e2 => by
    simp only [fitsS, Bool.and_eq_true, bne_iff_ne, ne_eq, beq_iff_eq] at h1 h2
    obtain ⟨⟨⟨⟨h11, h12⟩, h13⟩, h14⟩, h15⟩ := h1
    obtain ⟨⟨⟨⟨_, _⟩, h23⟩, h24⟩, h25⟩ := h2
    subst h12
    have hsx := (occ_size ha).1
    have hsy := (occ_size hc).1
    have hxy : x.size = y.size := by
      rw [h13] at h23
      injection h23 with h23
      injection h23
    have px := part_ok (w := w) h13 ha (by rw [← e1, ← hsx, List.take_left])
    have py := part_ok (w := w) h23 hc (by rw [← e2, ← hsy, List.take_left])
    have he := ih f.type x y cx cy h14 h24 ha hc
    have hr := eqFields_ok ih xs ys fs l m (f.offset + x.size) cl cm h15 (by rw [hxy]; exact h25) hb hd
      (by rw [← List.drop_drop, ← e1, ← hsx, List.drop_left]) (by rw [hxy, ← List.drop_drop, ← e2, ← hsy, List.drop_left])
    rw [Op.eqFields]
    simp only [ne_eq, h11, not_false_eq_true, if_true, Sem.run_bind, px, py, he, Result.andThen_ok, D.beqL]
    cases D.beq x y
    · simp
    · simpa using hr

theorem eqItems_ok {K : Kn} {n d : Nat} {e : TypeId} {sz : Nat} (ih : ∀ (t : TypeId) (x y : D) (xs ys : List Value), fits P n t x = true → fits P n t y = true → Occ K x xs → Occ K y ys → (Op.equalIn (n + d) t (asV x xs) (asV y ys)).run P w = .ok (D.beq x y) w)
    (xs ys : Array Value) : ∀ (l m : List D) (i : Nat) (cs ds : List Value), (∀ x ∈ l, lay P e = some (x.size, x.isAgg) ∧ fits P n e x = true) → (∀ x ∈ m, lay P e = some (x.size, x.isAgg) ∧ fits P n e x = true) → (∀ x ∈ l, x.size = sz) → l.length = m.length →
    OccL K l cs → OccL K m ds → cs = xs.toList.drop (i * sz) → ds = ys.toList.drop (i * sz) → (Op.eqItems (n + d) e sz xs ys (List.range' i l.length)).run P w = .ok (D.beqL l m) w
  | [], [], i, _, _, _, _, _, _, _, _, _, _ => by simp [Op.eqItems, D.beqL]
  | [], _ :: _, i, _, _, _, _, _, hl, _, _, _, _ => by simp at hl
  | _ :: _, [], i, _, _, _, _, _, hl, _, _, _, _ => by simp at hl
  | x :: l, y :: m, i, _, _, h1, h2, h3, hl, .cons (cs := cx) (ds := cl) ha hb, .cons (cs := cy) (ds := cm) hc hd, e1, e2 => by
    obtain ⟨h11, h12⟩ := h1 x (by simp)
    obtain ⟨h21, h22⟩ := h2 y (by simp)
    have hsx := (occ_size ha).1
    have hsy := (occ_size hc).1
    have hxs : x.size = sz := h3 x (by simp)
    have hxy : x.size = y.size := by
      rw [h11] at h21
      injection h21 with h21
      injection h21
    have px := part_ok (w := w) h11 ha (by rw [← e1, ← hsx, List.take_left])
    have py := part_ok (w := w) h21 hc (by rw [← e2, ← hsy, List.take_left])
    have he := ih e x y cx cy h12 h22 ha hc
    have hm : (i + 1) * sz = i * sz + sz := Nat.succ_mul i sz
    have hr := eqItems_ok ih xs ys l m (i + 1) cl cm (fun z hz => h1 z (by simp [hz])) (fun z hz => h2 z (by simp [hz])) (fun z hz => h3 z (by simp [hz])) (by simpa using hl) hb hd
      (by rw [hm, ← List.drop_drop, ← e1, ← hxs, ← hsx, List.drop_left]) (by rw [hm, ← List.drop_drop, ← e2, ← hxs, hxy, ← hsy, List.drop_left])
    simp only [List.length_cons, List.range'_succ, Op.eqItems, Sem.run_bind, px, py, he, Result.andThen_ok, D.beqL]
    cases D.beq x y
    · simp
    · simpa using hr

theorem eq_ok {K : Kn} : ∀ (n d : Nat) (t : TypeId) (x y : D) (xs ys : List Value), fits P n t x = true → fits P n t y = true → Occ K x xs → Occ K y ys → (Op.equalIn (n + d) t (asV x xs) (asV y ys)).run P w = .ok (D.beq x y) w
  | 0, _, _, _, _, _, _, h, _, _, _ => by simp [fits] at h
  | n + 1, d, t, x, y, xs, ys, h1, h2, hx, hy => by
    have ih := eq_ok (K := K) n d
    rw [Nat.add_right_comm]
    simp only [fits] at h1 h2
    split at h1
    · rename_i hu
      rw [hu] at h2
      cases y <;> simp only [Bool.false_eq_true] at h2
      cases hx
      cases hy
      simp [asV, D.isAgg, D.beq, Op.equalIn, run_underlying hu]
    · rename_i hu
      rw [hu] at h2
      cases y <;> simp only [Bool.false_eq_true] at h2
      cases hx
      cases hy
      simp only [asV, D.isAgg, D.beq, List.headD_cons, Bool.false_eq_true, if_false]
      rw [run_equalIn_string w _ _ _ _ hu, toList_mk, toList_mk]
    · rename_i k k' a hu
      rw [hu] at h2
      cases y <;> simp only [Bool.false_eq_true] at h2
      simp only [decide_eq_true_eq] at h1 h2
      subst h1
      subst h2
      cases hx
      cases hy
      simp [asV, D.isAgg, D.beq, Op.equalIn, run_underlying hu]
    · rename_i fs l hu
      rw [hu] at h2
      cases y <;> simp only [Bool.false_eq_true] at h2
      simp only [Bool.and_eq_true, Bool.not_eq_true'] at h1 h2
      have hf : P.fieldsOf t = fs := by simp [Program.fieldsOf, hu]
      simp only [asV, D.isAgg, D.beq, if_true]
      rw [run_equalIn_struct (P := P) w (n + d) t _ _ (by rw [hf]; exact hu) h1.1, hf]
      cases hx with
      | agg hx => cases hy with
        | agg hy => exact eqFields_ok ih _ _ _ _ _ 0 _ _ h1.2 h2.2 hx hy (by simp) (by simp)
    · rename_i m e l hu
      rw [hu] at h2
      cases y <;> simp only [Bool.false_eq_true] at h2
      simp only [Bool.and_eq_true, decide_eq_true_eq, List.all_eq_true, beq_iff_eq] at h1 h2
      obtain ⟨⟨hs, h11⟩, h12⟩ := h1
      obtain ⟨⟨_, h21⟩, h22⟩ := h2
      simp only [asV, D.isAgg, D.beq, if_true]
      obtain ⟨i, hi⟩ := Option.isSome_iff_exists.1 hs
      cases hx with
      | agg hx => cases hy with
        | agg hy =>
          rw [run_equalIn_array w (n + d) _ _ hu hi, List.range_eq_range']
          have hsz : ∀ x ∈ l, x.size = P.cellsOf e := fun x hx' => by
            have h5 := (lay_spec (h12 x hx').1 w).1
            have h6 := run_sizeOf w hi
            rw [h5] at h6
            injection h6
          rw [← h11]
          exact eqItems_ok ih _ _ l _ 0 _ _ h12 h22 hsz (by rw [h11, h21]) hx hy (by simp) (by simp)
    · cases h1

/-! ### binary operations -/
def intOp (op : BinOp) (k : IntKind) (a b : Int) : Option D :=
  match op with
  | .add => some (.int k (k.wrap (a + b)))
  | .sub => some (.int k (k.wrap (a - b)))
  | .mul => some (.int k (k.wrap (a * b)))
  | .quo => if b = 0 then none else some (.int k (k.wrap (a.tdiv b)))
  | .rem => if b = 0 then none else some (.int k (a.tmod b))
  | .and => some (.int k (k.wrap (BitVec.ofInt k.bits a &&& BitVec.ofInt k.bits b).toNat))
  | .or => some (.int k (k.wrap (BitVec.ofInt k.bits a ||| BitVec.ofInt k.bits b).toNat))
  | .xor => some (.int k (k.wrap (BitVec.ofInt k.bits a ^^^ BitVec.ofInt k.bits b).toNat))
  | .andNot => some (.int k (k.wrap (BitVec.ofInt k.bits a &&& ~~~ BitVec.ofInt k.bits b).toNat))
  | .eql => some (.bool (a == b))
  | .neq => some (.bool (a != b))
  | .lss => some (.bool (decide (a < b)))
  | .leq => some (.bool (decide (a ≤ b)))
  | .gtr => some (.bool (decide (a > b)))
  | .geq => some (.bool (decide (a ≥ b)))
  | _ => none
def evBin (P : Program) (op : BinOp) (t : TypeId) (cst : Bool) (x y : AV) : Option AV :=
  match x, y with
  | .d (.int k a), .d (.int k' b) =>
    match op with
    | .shl => if b < 0 then none else some (.d (.int k (k.wrap (a * 2 ^ min b.toNat k.bits))))
    | .shr => if b < 0 then none else some (.d (.int k (a.fdiv (2 ^ min b.toNat k.bits))))
    | op => if k = k' then (intOp op k a b).map .d else none
  | .d (.str a), .d (.str b) =>
    match op with
    | .add => if a.length + b.length ≤ 9223372036854775807 then some (.d (.str (a ++ b))) else none
    | .eql => some (.d (.bool (a == b)))
    | .neq => some (.d (.bool (!(a == b))))
    | _ => none
  | .d (.bool a), .d (.bool b) =>
    match op with
    | .eql => match P.underlying t with
      | some .bool => some (.d (.bool (a == b)))
      | _ => none
    | .neq => match P.underlying t with
      | some .bool => some (.d (.bool (!(a == b))))
      | _ => none
    | _ => none
  | .d (.agg a), .d (.agg b) =>
    if fits P 8 t (.agg a) = true ∧ fits P 8 t (.agg b) = true ∧ P.eqGuardType P.depth t = false then
      match op with
      | .eql => some (.d (.bool (D.beqL a b)))
      | .neq => some (.d (.bool (!(D.beqL a b))))
      | _ => none
    else none
  | .iface _ _, .con .nilIface =>
    match P.underlying t, op with
    | some (.interface _), .eql => some (.d (.bool false))
    | some (.interface _), .neq => some (.d (.bool true))
    | _, _ => none
  | .con .nilIface, .con .nilIface =>
    if cst = true then
      match P.underlying t, op with
      | some (.interface _), .eql => some (.d (.bool true))
      | some (.interface _), .neq => some (.d (.bool false))
      | _, _ => none
    else none
  | _, _ => none

def isConst : Operand → Bool
  | .const _ => true
  | _ => false

theorem occV_int {k : IntKind} {n : Int} {c : Value} (h : OccV G (.d (.int k n)) c) : c = .int k n := by
  cases occV_leaf h rfl rfl with
  | d h => cases h; rfl
theorem occV_bool {b : Bool} {c : Value} (h : OccV G (.d (.bool b)) c) : c = .bool b := by
  cases occV_leaf h rfl rfl with
  | d h => cases h; rfl
theorem occV_str {l : List UInt8} {c : Value} (h : OccV G (.d (.str l)) c) : c = .string ⟨l.toArray⟩ := by
  cases occV_leaf h rfl rfl with
  | d h => cases h; rfl
theorem occV_con {v c : Value} (h : OccV G (.con v) c) : c = v := by
  cases occV_leaf h rfl rfl with
  | con _ => rfl
theorem occV_agg {l : List D} {c : Value} (h : OccV G (.d (.agg l)) c) : ∃ cs, c = .agg cs.toArray ∧ OccL G.K l cs := by
  cases h with
  | one h1 _ => cases h1
  | agg _ h => cases h with
    | d h => cases h with
      | agg h => exact ⟨_, rfl, h⟩
theorem occV_D {x : D} {cs : List Value} (h : Occ G.K x cs) : OccV G (.d x) (asV x cs) := by
  unfold asV
  split
  · rename_i ha
    exact .agg ha (.d h)
  · rename_i ha
    obtain ⟨c, rfl⟩ := occ_leaf h (by simpa using ha)
    exact .one (by simpa [AV.isAgg] using ha) (.d h)
theorem occV_of_bool (b : Bool) : OccV G (.d (.bool b)) (.bool b) := .one rfl (.d (.bool b))
theorem occV_of_int (k : IntKind) (n : Int) : OccV G (.d (.int k n)) (.int k n) := .one rfl (.d (.int k n))
theorem occV_of_str (l : List UInt8) : OccV G (.d (.str l)) (.string ⟨l.toArray⟩) := .one rfl (.d (.str l))

theorem intOp_ok {op : BinOp} {t : TypeId} {k : IntKind} {a b : Int} {x : D} (e : intOp op k a b = some x) (h1 : op ≠ .shl) (h2 : op ≠ .shr) :
    ∃ c, (binOp op t (.int k a) (.int k b)).run P w = .ok c w ∧ OccV G (.d x) c := by
  cases op <;> simp only [intOp] at e <;> first
    | (cases e
       refine ⟨_, ?_, occV_of_int _ _⟩
       simp [binOp, Op.intArith, Op.intBits])
    | (cases e
       refine ⟨_, ?_, occV_of_bool _⟩
       simp [binOp, Op.intCmp])
    | (split at e
       · cases e
       · rename_i hb
         cases e
         refine ⟨_, ?_, occV_of_int _ _⟩
         simp [binOp, Op.intDiv, hb])
    | (exact absurd rfl h1)
    | (exact absurd rfl h2)
    | (cases e)

theorem run_eq_b (d : Nat) {t : TypeId} (a b : Bool) (hu : P.underlying t = some .bool) : (Op.equalIn (d + 1) t (.bool a) (.bool b)).run P w = .ok (a == b) w := by
  simp [Op.equalIn, run_underlying hu]
theorem run_eq_in (d : Nat) {t : TypeId} {ms : Array (String × TypeId)} (tx : TypeId) (vx : Value) (hu : P.underlying t = some (.interface ms)) : (Op.equalIn (d + 1) t (.iface tx vx) .nilIface).run P w = .ok false w := by
  simp [Op.equalIn, run_underlying hu]
theorem run_eq_nn (d : Nat) {t : TypeId} {ms : Array (String × TypeId)} (hu : P.underlying t = some (.interface ms)) : (Op.equalIn (d + 1) t .nilIface .nilIface).run P w = .ok true w := by
  simp [Op.equalIn, run_underlying hu]

theorem bin_okay {op : BinOp} {t : TypeId} {xo yo : Operand} {x y v : AV} {cx cy : Value} (hx : OccV G x cx) (hy : OccV G y cy) (e : evBin P op t (isConst xo || isConst yo) x y = some v) :
    ∃ c, (do eqGuard op t xo yo cx cy; binOp op t cx cy : Sem Value).run P w = .ok c w ∧ OccV G v c := by
  unfold evBin at e
  split at e
  · rename_i k a k' b
    rw [occV_int hx, occV_int hy]
    have hg : (eqGuard op t xo yo (.int k a) (.int k' b)).run P w = .ok () w := by cases op <;> simp [eqGuard]
    simp only [Sem.run_bind, hg, Result.andThen_ok]
    split at e
    · split at e
      · cases e
      · rename_i hb
        cases e
        refine ⟨_, ?_, occV_of_int _ _⟩
        simp [binOp, Op.shift, hb]
    · split at e
      · cases e
      · rename_i hb
        cases e
        refine ⟨_, ?_, occV_of_int _ _⟩
        simp [binOp, Op.shift, hb]
    · rename_i h1 h2
      split at e
      · rename_i hk
        subst hk
        obtain ⟨z, hz, rfl⟩ := Option.map_eq_some_iff.1 e
        exact intOp_ok hz h1 h2
      · cases e
  · rename_i a b
    rw [occV_str hx, occV_str hy]
    have hg : (eqGuard op t xo yo (.string ⟨a.toArray⟩) (.string ⟨b.toArray⟩)).run P w = .ok () w := by cases op <;> simp [eqGuard]
    simp only [Sem.run_bind, hg, Result.andThen_ok]
    split at e
    · split at e
      · rename_i hb
        cases e
        have hs : ¬ (((ByteArray.mk a.toArray).size + (ByteArray.mk b.toArray).size : Nat) : Int) > IntKind.i64.max := by
          show ¬ ((a.toArray.size + b.toArray.size : Nat) : Int) > 9223372036854775807
          simp
          omega
        refine ⟨.string (⟨a.toArray⟩ ++ ⟨b.toArray⟩), ?_, ?_⟩
        · simp only [binOp, Op.stringOp]
          rw [if_neg hs]
          rfl
        · have : (ByteArray.mk a.toArray ++ ByteArray.mk b.toArray) = ⟨(a ++ b).toArray⟩ := by
            apply ByteArray.ext
            simp
          rw [this]
          exact occV_of_str _
      · cases e
    · cases e
      refine ⟨_, ?_, occV_of_bool _⟩
      simp only [binOp, Op.stringOp, toList_mk]
      rfl
    · cases e
      refine ⟨_, ?_, occV_of_bool _⟩
      simp only [binOp, Op.stringOp, toList_mk]
      rfl
    · cases e
  · rename_i a b
    rw [occV_bool hx, occV_bool hy]
    have hg : (eqGuard op t xo yo (.bool a) (.bool b)).run P w = .ok () w := by cases op <;> simp [eqGuard]
    simp only [Sem.run_bind, hg, Result.andThen_ok]
    split at e
    · split at e
      · rename_i hu
        cases e
        have h1 := run_eq_b (P := P) (w := w) 9999 a b hu
        refine ⟨_, ?_, occV_of_bool _⟩
        simp only [binOp, Op.equal, Op.maxDepth, Sem.run_bind, h1, Result.andThen_ok, Sem.run_pure]
      · cases e
    · split at e
      · rename_i hu
        cases e
        have h1 := run_eq_b (P := P) (w := w) 9999 a b hu
        refine ⟨_, ?_, occV_of_bool _⟩
        simp only [binOp, Op.equal, Op.maxDepth, Sem.run_bind, h1, Result.andThen_ok, Sem.run_pure]
      · cases e
    · cases e
  · rename_i a b
    obtain ⟨cs, rfl, hcs⟩ := occV_agg hx
    obtain ⟨ds, rfl, hds⟩ := occV_agg hy
    split at e
    · rename_i hc
      obtain ⟨hc1, hc2, hc3⟩ := hc
      have heq := eq_ok (P := P) (w := w) 8 9992 t _ _ cs ds hc1 hc2 (.agg hcs) (.agg hds)
      simp only [asV, D.isAgg, if_true, D.beq] at heq
      have hg : (eqGuard op t xo yo (.agg cs.toArray) (.agg ds.toArray)).run P w = .ok () w := by cases op <;> simp [eqGuard, hc3]
      simp only [Sem.run_bind, hg, Result.andThen_ok]
      split at e
      · cases e
        refine ⟨_, ?_, occV_of_bool _⟩
        simp only [binOp, Op.equal, Op.maxDepth, Sem.run_bind, heq, Result.andThen_ok, Sem.run_pure]
      · cases e
        refine ⟨_, ?_, occV_of_bool _⟩
        simp only [binOp, Op.equal, Op.maxDepth, Sem.run_bind, heq, Result.andThen_ok, Sem.run_pure]
      · cases e
    · cases e
  · rename_i ti xi
    rw [occV_con hy]
    cases occV_leaf hx rfl rfl with
    | iface hxi =>
      rename_i vx
      have hg : (eqGuard op t xo yo (.iface ti vx) .nilIface).run P w = .ok () w := by cases op <;> simp [eqGuard]
      simp only [Sem.run_bind, hg, Result.andThen_ok]
      split at e
      · rename_i hu
        cases e
        have h1 := run_eq_in (P := P) (w := w) 9999 ti vx hu
        refine ⟨_, ?_, occV_of_bool _⟩
        simp only [binOp, Op.equal, Op.maxDepth, Sem.run_bind, h1, Result.andThen_ok, Sem.run_pure]
      · rename_i hu
        cases e
        have h1 := run_eq_in (P := P) (w := w) 9999 ti vx hu
        refine ⟨_, ?_, occV_of_bool _⟩
        simp only [binOp, Op.equal, Op.maxDepth, Sem.run_bind, h1, Result.andThen_ok, Sem.run_pure, Bool.not_false]
      · cases e
  · rw [occV_con hx, occV_con hy]
    split at e
    · rename_i hc
      have hg : ∀ op, (eqGuard op t xo yo .nilIface .nilIface).run P w = .ok () w := by
        intro op
        cases xo <;> cases yo <;> simp [isConst] at hc <;> cases op <;> simp [eqGuard]
      simp only [Sem.run_bind, hg, Result.andThen_ok]
      split at e
      · rename_i hu
        cases e
        have h1 := run_eq_nn (P := P) (w := w) 9999 hu
        refine ⟨_, ?_, occV_of_bool _⟩
        simp only [binOp, Op.equal, Op.maxDepth, Sem.run_bind, h1, Result.andThen_ok, Sem.run_pure]
      · rename_i hu
        cases e
        have h1 := run_eq_nn (P := P) (w := w) 9999 hu
        refine ⟨_, ?_, occV_of_bool _⟩
        simp only [binOp, Op.equal, Op.maxDepth, Sem.run_bind, h1, Result.andThen_ok, Sem.run_pure, Bool.not_true]
      · cases e
    · cases e
  · cases e
end
end Go.Am
