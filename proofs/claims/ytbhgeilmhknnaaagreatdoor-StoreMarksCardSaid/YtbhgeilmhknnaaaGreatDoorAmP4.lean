/- The plain law, part 4: stores. -/
import Derived.Test.YtbhgeilmhknnaaaGreatDoorAmP3
import Derived.Test.YtbhgeilmhknnaaaGreatDoorAmAlive15
import Derived.Test.YtbhgeilmhknnaaaGreatDoorAmShape
namespace Go.Am
open Go.Proofs
set_option maxRecDepth 100000
structure SInv (s : Store) (b k : Nat) : Prop where
  d : DOk s.disk b k
  m : isN s.mask 4294967296
  bl : s.super.blocks = (b : Int)
theorem SInv.mono {s : Store} {b k k' : Nat} (h : SInv s b k) (hk : k ≤ k') : SInv s b k' := ⟨h.d.mono hk, h.m, h.bl⟩
/-- The end of an act: the program's answer and the reference's answer are one, and what holds of it. -/
def Both {α : Type} (p q : Option (Store × α)) (b k : Nat) (Q : Store × α → Prop) : Prop := ∃ r, p = some r ∧ q = some r ∧ SInv r.1 b k ∧ Q r
def BothD {α : Type} (p q : Option (Disk × α)) (b k : Nat) (Q : Disk × α → Prop) : Prop := ∃ r, p = some r ∧ q = some r ∧ DOk r.1 b k ∧ Q r
def QD (r : Disk × Int) : Prop := r.1.dead = true → r.2 = 6
theorem note_eq {d : Disk} {b k n : Nat} {m : Int} (h : DOk d b k) (hk : k ≤ 190) (hm : isN m 4294967296) (hn : 260 ≤ n) (hd : d.dead = false) : BothD (bits_Note n d m) (ref08_Note n d m) b (k + 1) QD := by
  obtain ⟨x, rfl, hx⟩ := hm.nat
  obtain ⟨n, rfl⟩ : ∃ j, n = j + 9 := ⟨n - 9, by omega⟩
  unfold bits_Note ref08_Note bits_right
  rw [h.two, mright_eq hx h.bl h.bh, rright_eq hx h.bl h.bh (by omega)]
  simp only [bnd_some]
  cases decide (x < 2 ^ b) with
  | false => exact ⟨(d, 1), rfl, rfl, h.mono (by omega), fun e => by rw [hd] at e; cases e⟩
  | true =>
    rw [Bool.not_true, cond_false, cond_false, num_Put32_eq hm, ref_Put32 hm]
    simp only [bnd_some]
    obtain ⟨t, h1, h2, _⟩ := seal_eq n (be 4 ((x : Int)).toNat) (by rw [be_length]; omega) (by rw [be_length]; omega)
    rw [h1, h2]
    simp only [bnd_some]
    obtain ⟨r, h3, h4, h5, h6⟩ := write_ok 1 t h (by omega)
    rw [h3, h4]
    exact ⟨r, rfl, rfl, h5, h6⟩
theorem save_eq {d : Disk} {b k n : Nat} {m : Int} (h : DOk d b k) (hk : k ≤ 190) (hm : isN m 4294967296) (hn : 260 ≤ n) (hd : d.dead = false) : BothD (bits_Save n d m) (ref08_Save n d m) b (k + 1) QD := by
  unfold bits_Save ref08_Save
  obtain ⟨r, h1, h2, h3, h4⟩ := note_eq h hk hm hn hd
  rw [h1, h2, bnd_some, bnd_some]
  cases hr : r.2 != 0 with
  | true => exact ⟨r, rfl, rfl, h3, h4⟩
  | false =>
    obtain ⟨q, h5, h6, h7, h8, _⟩ := flush_ok (n := n) h3 (by omega) (by omega)
    rw [cond_false, cond_false, h5, h6]
    exact ⟨q, rfl, rfl, h7, h8⟩
def QS (r : Store × Int) : Prop := r.1.disk.dead = true → r.2 = 6
theorem QS_of {s : Store} (hd : s.disk.dead = false) (e : Int) : QS (s, e) := fun h => by
  have h : s.disk.dead = true := h
  rw [hd] at h; cases h
theorem keep_after {s : Store} {b k : Nat} {m : Int} {p q : Option (Disk × Int)} (h : SInv s b k) (hm : isN m 4294967296) (hB : BothD p q b (k + 1) QD) :
    Both (Bnd p fun x2 => bif x2.2 == 0 then some (Store.mk x2.1 s.super m, x2.2) else some (Store.mk x2.1 s.super s.mask, x2.2)) (Bnd q fun x2 => bif x2.2 == 0 then some (Store.mk x2.1 s.super m, x2.2) else some (Store.mk x2.1 s.super s.mask, x2.2)) b (k + 1) QS := by
  obtain ⟨r, rfl, rfl, h3, h4⟩ := hB
  rw [bnd_some]
  cases r.2 == 0 with
  | true => exact ⟨_, rfl, rfl, ⟨h3, hm, h.bl⟩, h4⟩
  | false => exact ⟨_, rfl, rfl, ⟨h3, h.m, h.bl⟩, h4⟩
theorem keep74_eq {s : Store} {b k n : Nat} {m : Int} (h : SInv s b k) (hk : k ≤ 190) (hm : isN m 4294967296) (hn : 260 ≤ n) (hd : s.disk.dead = false) : Both (store_keep_74 n s m) (ref15_save n s m) b (k + 1) QS := by
  unfold store_keep_74 ref15_save
  cases m == s.mask with
  | true => exact ⟨_, rfl, rfl, h.mono (by omega), QS_of hd _⟩
  | false => exact keep_after h hm (save_eq h.d hk hm hn hd)
theorem there_store {s : Store} {i : Int} : store_there s i = decide (0 ≤ i ∧ i < s.super.blocks) := by
  unfold store_there
  by_cases h0 : 0 ≤ i
  · rw [show decide (i ≥ 0) = true from decide_eq_true h0, cond_true]
    exact decide_eq_decide.2 ⟨fun h => ⟨h0, h⟩, fun h => h.2⟩
  · rw [show decide (i ≥ 0) = false from decide_eq_false h0, cond_false]
    exact (decide_eq_false fun h => h0 h.1).symm
theorem both_bnd {p q : Option (Store × Int)} {b k : Nat} {Q : Store × Int → Prop} (h : Both p q b k Q) : Both (Bnd p fun x => some (x.1, x.2)) (Bnd q fun x => some (x.1, x.2)) b k Q := by
  obtain ⟨r, rfl, rfl, h3, h4⟩ := h
  exact ⟨r, rfl, rfl, h3, h4⟩
theorem out_ref {α : Type} {s : Store} {i : Int} (h : ¬ (0 ≤ i ∧ i < s.super.blocks)) (a c : α) : (bif decide (i < 0) then a else bif decide (i ≥ s.super.blocks) then a else c) = a := by
  by_cases h0 : i < 0
  · rw [show decide (i < 0) = true from decide_eq_true h0, cond_true]
  · rw [show decide (i < 0) = false from decide_eq_false h0, cond_false, show decide (i ≥ s.super.blocks) = true from decide_eq_true (by omega), cond_true]
theorem in_ref {α : Type} {s : Store} {i : Int} (h : 0 ≤ i ∧ i < s.super.blocks) (a c : α) : (bif decide (i < 0) then a else bif decide (i ≥ s.super.blocks) then a else c) = c := by
  rw [show decide (i < 0) = false from decide_eq_false (by omega), cond_false, show decide (i ≥ s.super.blocks) = false from decide_eq_false (by omega), cond_false]
theorem isN_nat {x : Nat} {b : Nat} (h : x < b) : isN (x : Int) b := by
  unfold isN
  omega
theorem mark_eq {s : Store} {b k n : Nat} (i : Int) (h : SInv s b k) (hk : k ≤ 190) (hn : 260 ≤ n) (hd : s.disk.dead = false) : Both (store_Mark n s i) (ref15_Mark n s i) b (k + 1) QS := by
  unfold store_Mark ref15_Mark
  rw [let_eq, there_store]
  by_cases hi : 0 ≤ i ∧ i < s.super.blocks
  · rw [in_ref hi, decide_eq_true hi, Bool.not_true, cond_false]
    obtain ⟨x, hx, hx2⟩ := h.m.nat
    have hb := h.bl
    have hb2 := h.d.bh
    obtain ⟨j, rfl⟩ : ∃ j : Nat, i = (j : Int) := ⟨i.toNat, by omega⟩
    have hj : j < 32 := by omega
    have h2 := two_lt hj
    rw [hx, mset_eq hj hx2 (by omega), rset_eq hj hx2 (by omega), bnd_some, bnd_some]
    exact both_bnd (keep74_eq h hk (isN_nat (Nat.or_lt_two_pow (n := 32) hx2 (by omega))) hn hd)
  · rw [out_ref hi, decide_eq_false hi]
    exact ⟨_, rfl, rfl, h.mono (by omega), QS_of hd _⟩
theorem wipe_eq {s : Store} {b k n : Nat} (i : Int) (h : SInv s b k) (hk : k ≤ 190) (hn : 260 ≤ n) (hd : s.disk.dead = false) : Both (store_Wipe n s i) (ref15_Wipe n s i) b (k + 1) QS := by
  unfold store_Wipe ref15_Wipe
  rw [let_eq, there_store]
  by_cases hi : 0 ≤ i ∧ i < s.super.blocks
  · rw [in_ref hi, decide_eq_true hi, Bool.not_true, cond_false]
    obtain ⟨x, hx, hx2⟩ := h.m.nat
    have hb := h.bl
    have hb2 := h.d.bh
    obtain ⟨j, rfl⟩ : ∃ j : Nat, i = (j : Int) := ⟨i.toNat, by omega⟩
    have hj : j < 32 := by omega
    have hlt : anot x (2 ^ j) < 4294967296 := anot_lt (k := 32) hx2
    rw [hx, mclear_eq hj hx2 (by omega), rclear_eq hj hx2 (by omega), bnd_some, bnd_some, ← hx]
    unfold store_keep_76
    cases ((anot x (2 ^ j) : Nat) : Int) == s.mask with
    | true => exact ⟨_, rfl, rfl, h.mono (by omega), QS_of hd _⟩
    | false =>
      have := keep_after h (isN_nat hlt) (note_eq h.d hk (isN_nat hlt) hn hd)
      obtain ⟨r, h1, h2, h3, h4⟩ := this
      refine ⟨r, ?_, h2, h3, h4⟩
      rw [cond_false, h1]
      rfl
  · rw [out_ref hi, decide_eq_false hi]
    exact ⟨_, rfl, rfl, h.mono (by omega), QS_of hd _⟩
theorem join_eq {s : Store} {b k n : Nat} {m : Int} (hm : isN m 4294967296) (h : SInv s b k) (hk : k ≤ 190) (hn : 260 ≤ n) (hd : s.disk.dead = false) : Both (store_Join n s m) (ref15_Join n s m) b (k + 1) QS := by
  unfold store_Join ref15_Join
  obtain ⟨x, hx, hx2⟩ := h.m.nat
  obtain ⟨y, rfl, hy2⟩ := hm.nat
  rw [hx, munion_eq hx2 hy2 (by omega), runion_eq hx2 hy2 (by omega), bnd_some, bnd_some]
  exact both_bnd (keep74_eq h hk (isN_nat (Nat.or_lt_two_pow (n := 32) hx2 hy2)) hn hd)
theorem put_eq {s : Store} {b k n : Nat} (i : Int) (data : Str) (h : SInv s b k) (hk : k ≤ 190) (hn : 260 ≤ n) (hd : s.disk.dead = false) : Both (store_Put n s i data) (ref15_Put n s i data) b (k + 1) QS := by
  have key : BothD (area_Put n s.disk i data) (ref09_Put n s.disk i data) b (k + 1) QD := by
    unfold area_Put ref09_Put
    rw [let_eq, let_eq, show ref09_there s.disk i = area_there s.disk i from rfl]
    cases area_there s.disk i with
    | false => exact ⟨_, rfl, rfl, h.d.mono (by omega), fun e => by rw [hd] at e; cases e⟩
    | true =>
      rw [Bool.not_true, cond_false, cond_false]
      cases (data.length : Int) != 8 with
      | true => exact ⟨_, rfl, rfl, h.d.mono (by omega), fun e => by rw [hd] at e; cases e⟩
      | false =>
        obtain ⟨r, h1, h2, h3, h4⟩ := write_ok (wI64 (i + 2)) data h.d (by omega)
        rw [cond_false, cond_false, h1, h2, bnd_some, bnd_some]
        cases r.2 != 0 with
        | true => exact ⟨r, rfl, rfl, h3, h4⟩
        | false =>
          obtain ⟨q, h5, h6, h7, h8, _⟩ := flush_ok (n := n) h3 (by omega) (by omega)
          rw [cond_false, cond_false, h5, h6]
          exact ⟨q, rfl, rfl, h7, h8⟩
  obtain ⟨r, h1, h2, h3, h4⟩ := key
  unfold store_Put ref15_Put
  rw [h1, h2]
  exact ⟨_, rfl, rfl, ⟨h3, h.m, h.bl⟩, h4⟩
theorem commit_eq {s : Store} {b k n : Nat} {p : Super} (hp : supN p) (h : SInv s b k) (hk : k ≤ 190) (hn : 260 ≤ n) (hd : s.disk.dead = false) : Both (store_Commit n s p) (ref15_Commit n s p) b (k + 1) QS := by
  have key : BothD (meta_Commit n s.disk p) (ref07_Commit n s.disk p) b (k + 1) (fun r => QD r ∧ (r.2 = 0 → p.blocks = (b : Int))) := by
    unfold meta_Commit ref07_Commit
    obtain ⟨r, h1, h2, _, _, _⟩ := encode_eq n p hp (by omega)
    rw [h1, h2, bnd_some, bnd_some]
    cases r.2 != 0 with
    | true => exact ⟨_, rfl, rfl, h.d.mono (by omega), (fun e => by rw [hd] at e; cases e), fun e => by cases e⟩
    | false =>
      rw [cond_false, cond_false, let_eq, let_eq]
      unfold meta_Fits ref07_Fits
      rw [h.d.two]
      by_cases hb : p.blocks = (b : Int)
      · rw [show (p.blocks == (b : Int)) = true from beq_iff_eq.2 hb, show ((b : Int) == p.blocks) = true from beq_iff_eq.2 hb.symm, Bool.not_true, cond_false, cond_false]
        obtain ⟨r2, h1, h2, h3, h4⟩ := write_ok 0 r.1 h.d (by omega)
        rw [h1, h2, bnd_some, bnd_some]
        cases r2.2 != 0 with
        | true => exact ⟨_, rfl, rfl, h3, h4, fun _ => hb⟩
        | false =>
          obtain ⟨q, h5, h6, h7, h8, _⟩ := flush_ok (n := n) h3 (by omega) (by omega)
          rw [cond_false, cond_false, h5, h6]
          exact ⟨q, rfl, rfl, h7, h8, fun _ => hb⟩
      · rw [show (p.blocks == (b : Int)) = false from beq_eq_false_iff_ne.2 hb, show ((b : Int) == p.blocks) = false from beq_eq_false_iff_ne.2 fun e => hb e.symm]
        exact ⟨_, rfl, rfl, h.d.mono (by omega), (fun e => by rw [hd] at e; cases e), fun e => by cases e⟩
  unfold store_Commit ref15_Commit
  cases D.beq (eSuper p) (eSuper s.super) with
  | true => exact ⟨_, rfl, rfl, h.mono (by omega), QS_of hd _⟩
  | false =>
    obtain ⟨r, h1, h2, h3, h4, h5⟩ := key
    rw [cond_false, cond_false, h1, h2, bnd_some]
    cases hr : r.2 == 0 with
    | true => exact ⟨_, rfl, rfl, ⟨h3, h.m, h5 (beq_iff_eq.1 hr)⟩, h4⟩
    | false => exact ⟨_, rfl, rfl, ⟨h3, h.m, h.bl⟩, h4⟩
theorem sread_eq {s : Store} {b k n : Nat} (i : Int) (h : SInv s b k) (hk : k ≤ 190) (hn : 260 ≤ n) : ∃ r, store_Read s i = some r ∧ ref15_Read n s i = some r := by
  unfold store_Read ref15_Read area_Read ref09_Read
  rw [let_eq, let_eq, show ref09_there s.disk i = area_there s.disk i from rfl]
  cases area_there s.disk i with
  | false => exact ⟨_, rfl, rfl⟩
  | true =>
    obtain ⟨r, h1, h2, _, _⟩ := read_eq (n := n) (wI64 (i + 2)) h.d (by omega) (by omega)
    rw [Bool.not_true, cond_false, cond_false, h1, h2, bnd_some]
    cases r.2 != 0 with
    | true => exact ⟨_, rfl, rfl⟩
    | false =>
      rw [cond_false]
      cases (r.1.length : Int) != 8 <;> exact ⟨_, rfl, rfl⟩

/-! ### one act -/
theorem do_eq {s : Store} {b k n : Nat} {a : Act_law15} (hm : isN a.mask 4294967296) (hp : supN a.super) (h : SInv s b k) (hk : k ≤ 190) (hn : 260 ≤ n) (hd : s.disk.dead = false) :
    ∃ r, law15_do n s a = some r ∧ law15_plain n s a = some r ∧ SInv r.1 b (k + 1) ∧ (r.1.disk.dead = true → r.2.2 = 6) := by
  have put : ∀ {p q : Option (Store × Int)}, Both p q b (k + 1) QS → ∃ r : Store × Str × Int, (Bnd p fun x => some (x.1, ([] : Str), x.2)) = some r ∧ (Bnd q fun x => some (x.1, ([] : Str), x.2)) = some r ∧ SInv r.1 b (k + 1) ∧ (r.1.disk.dead = true → r.2.2 = 6) := by
    rintro p q ⟨r, rfl, rfl, h3, h4⟩
    exact ⟨_, rfl, rfl, h3, h4⟩
  unfold law15_do law15_plain
  cases a.kind == 0 with
  | true => exact put (mark_eq _ h hk hn hd)
  | false =>
  cases a.kind == 1 with
  | true => exact put (wipe_eq _ h hk hn hd)
  | false =>
  cases a.kind == 2 with
  | true => exact put (join_eq hm h hk hn hd)
  | false =>
  cases a.kind == 3 with
  | true => exact put (put_eq _ _ h hk hn hd)
  | false =>
  cases a.kind == 4 with
  | true => exact put (commit_eq hp h hk hn hd)
  | false =>
    obtain ⟨r, h1, h2⟩ := sread_eq (n := n) a.block h hk hn
    simp only [cond_false]
    rw [h1, h2]
    exact ⟨_, rfl, rfl, h.mono (by omega), fun e => by
      have e : s.disk.dead = true := e
      rw [hd] at e; cases e⟩

/-! ### sameness -/
theorem beq_write (x : Write) : D.beq (eWrite x) (eWrite x) = true := by
  simp [eWrite, eI64, eS, D.beq, D.beqL]
theorem beq_super (x : Super) : D.beq (eSuper x) (eSuper x) = true := by
  simp [eSuper, eVector, eA2, eU64, eI64, eB, D.beq, D.beqL]
theorem same_L2 (a : Disk) (v : Int) (hc : a.cache.length ≤ 1000) : ∀ (n j : Nat), j ≤ a.cache.length → a.cache.length - j < n → ref04_Same_L2 n a a v (j : Int) = some true
  | 0, j, _, h => by omega
  | n + 1, j, hj, hn => by
    unfold ref04_Same_L2
    by_cases h : j < a.cache.length
    · rw [show decide ((j : Int) < (a.cache.length : Int)) = true from decide_eq_true (by omega), cond_true, chk_inR (by omega) (by omega), chk_inR (by omega) (by omega), beq_write, Bool.not_true, cond_false, inc64 (by omega)]
      exact same_L2 a v hc n (j + 1) (by omega) (by omega)
    · rw [show decide ((j : Int) < (a.cache.length : Int)) = false from decide_eq_false (by omega), cond_false]
theorem same_L1 (a : Disk) (hs : a.sure.length ≤ 1000) (hc : a.cache.length ≤ 1000) : ∀ (n j : Nat), j ≤ a.sure.length → a.sure.length - j + a.cache.length + 1 < n → ref04_Same_L1 n a a (j : Int) = some true
  | 0, j, _, h => by omega
  | n + 1, j, hj, hn => by
    unfold ref04_Same_L1
    by_cases h : j < a.sure.length
    · rw [show decide ((j : Int) < (a.sure.length : Int)) = true from decide_eq_true (by omega), cond_true, chk_inR (by omega) (by omega), chk_inR (by omega) (by omega), beq_self_eq_true, Bool.not_true, cond_false, inc64 (by omega)]
      exact same_L1 a hs hc n (j + 1) (by omega) (by omega)
    · rw [show decide ((j : Int) < (a.sure.length : Int)) = false from decide_eq_false (by omega), cond_false]
      exact same_L2 a _ hc n 0 (by omega) (by omega)
theorem same_refl {s : Store} {b k n : Nat} (h : SInv s b k) (hk : k ≤ 200) (hn : 240 ≤ n) : ref15_Same n s s = some true := by
  have hl := h.d.len
  have hb := h.d.bh
  have hc := h.d.cl
  unfold ref15_Same ref04_Same
  have e1 := same_L1 s.disk (by omega) (by omega) n 0 (by omega) (by omega)
  have hbn : ∀ (x : Int), (x != x) = false := fun x => by simp
  rw [hbn, hbn, hbn, cond_false, cond_false, cond_false, beq_self_eq_true, Bool.not_true, cond_false]
  rw [show (0 : Int) = ((0 : Nat) : Int) from rfl, e1, bnd_some, cond_true, beq_super, cond_true, beq_self_eq_true]

/-! ### what the arguments are -/
theorem wfU8 {n : Int} (h : (Lit.int .u8 n).wf = true) : isN n 256 := by
  simp [Lit.wf, IntKind.min, IntKind.max, IntKind.signed, IntKind.bits] at h
  unfold isN
  omega
theorem wfU32 {n : Int} (h : (Lit.int .u32 n).wf = true) : isN n 4294967296 := by
  simp [Lit.wf, IntKind.min, IntKind.max, IntKind.signed, IntKind.bits] at h
  unfold isN
  omega
theorem wfU64 {n : Int} (h : (Lit.int .u64 n).wf = true) : isN n 18446744073709551616 := by
  simp [Lit.wf, IntKind.min, IntKind.max, IntKind.signed, IntKind.bits] at h
  unfold isN
  omega
theorem wfI64 {n : Int} (h : (Lit.int .i64 n).wf = true) : i64N n := by
  simp [Lit.wf, IntKind.min, IntKind.max, IntKind.signed, IntKind.bits] at h
  unfold i64N
  omega
theorem wfSup {p : Super} (h : wfSuper p) : supN p :=
  ⟨wfI64 h.1, wfU64 h.2.1.1, wfU64 h.2.1.2.1, wfU64 h.2.1.2.2.1, wfU64 h.2.1.2.2.2⟩

/-! ### the new store -/
def newOK (n b : Nat) : Bool :=
  match ref15_New n (b : Int) with
  | some s => s.disk.sure.length == b + 2 && s.disk.cache.length == 0 && s.disk.fuse == 0 && s.disk.dead == false && s.mask == 0 && s.super.blocks == (b : Int)
  | none => false
theorem new_all : (List.range 32).all (fun i => newOK 400 (i + 1)) = true := by kernel_rfl
theorem new_ok {b : Nat} (h1 : 1 ≤ b) (h2 : b ≤ 32) : ∃ s, ref15_New 400 (b : Int) = some s ∧ SInv s b 0 ∧ s.disk.dead = false ∧ s.disk.fuse = 0 ∧ s.mask = 0 ∧ s.disk.cache = [] := by
  have h := List.all_eq_true.1 new_all (b - 1) (by rw [List.mem_range]; omega)
  rw [show b - 1 + 1 = b by omega] at h
  unfold newOK at h
  split at h
  · rename_i s hs
    simp only [Bool.and_eq_true, beq_iff_eq] at h
    obtain ⟨⟨⟨⟨⟨hl, hc⟩, hf⟩, hd⟩, hm⟩, hb⟩ := h
    have hc' : s.disk.cache = [] := List.length_eq_zero_iff.1 hc
    refine ⟨s, hs, ⟨⟨hl, h1, h2, ?_, by omega, by omega, by omega⟩, by rw [hm]; exact ⟨by decide, by decide⟩, hb⟩, hd, hf, hm, hc'⟩
    rw [hc']
    intro x hx
    cases hx
  · cases h
theorem blocks_eq {n : Int} (h : isN n 256) : wI64 (1 + wI64 (n.tmod 32)) = ((n.toNat % 32 + 1 : Nat) : Int) := by
  unfold isN at h
  have : n.tmod 32 = n % 32 := Int.tmod_eq_emod_of_nonneg h.1
  rw [this, wI64_eq (n := n % 32) (by omega) (by omega), wI64_eq (by omega) (by omega)]
  omega

/-! ### the law -/
theorem acts_L {b : Nat} (n_ : Int) (l : List Act_law15) (fuse : Int) (x1 x4 : Bool) (x7 : Store) (x9 : Disk) (hw : ∀ a ∈ l, wfAct_law15 a) (hl : l.length ≤ 40) :
    ∀ (n j : Nat) (s : Store), j ≤ l.length → l.length - j + 300 < n → SInv s b j → s.disk.dead = false → law15_StoreActs_L1 n n_ l fuse x1 x4 x7 x9 (j : Int) s = some true
  | 0, j, s, _, hn, _, _ => by omega
  | n + 1, j, s, hj, hn, hs, hd => by
    unfold law15_StoreActs_L1
    by_cases h : j < l.length
    · have ha := hw _ (gt_mem l h)
      obtain ⟨r, h1, h2, h3, h4⟩ := do_eq (n := n) (wfU32 ha.2.2.1) (wfSup ha.2.2.2.2) hs (by omega) (by omega) hd
      rw [show decide ((j : Int) < (l.length : Int)) = true from decide_eq_true (by omega), cond_true, chk_inR (by omega) (by omega), h1, h2, bnd_some, bnd_some, same_refl h3 (by omega) (by omega), bnd_some, Bool.not_true, cond_false, beq_self_eq_true, Bool.not_true, cond_false,
        show (r.2.2 != r.2.2) = false by simp, cond_false, inc64 (by omega)]
      cases hr : r.1.disk.dead with
      | true =>
        rw [cond_true, h4 hr]
        rfl
      | false =>
        rw [cond_false]
        exact acts_L n_ l fuse x1 x4 x7 x9 hw hl n (j + 1) r.1 (by omega) (by omega) h3 hr
    · rw [show decide ((j : Int) < (l.length : Int)) = false from decide_eq_false (by omega), cond_false]
theorem great_L (l : List Act_law15) (hl : l.length ≤ 40) : ∀ (n j : Nat), j ≤ l.length → l.length - j < n → ∃ g, law15_great_L1 n l (j : Int) = some g
  | 0, j, _, h => by omega
  | n + 1, j, hj, hn => by
    unfold law15_great_L1
    by_cases h : j < l.length
    · rw [show decide ((j : Int) < (l.length : Int)) = true from decide_eq_true (by omega), cond_true, chk_inR (by omega) (by omega), inc64 (by omega)]
      cases decide (((gt l (j : Int)).data.length : Int) > 100) with
      | true => exact ⟨true, rfl⟩
      | false => exact great_L l hl n (j + 1) (by omega) (by omega)
    · rw [show decide ((j : Int) < (l.length : Int)) = false from decide_eq_false (by omega), cond_false]
      exact ⟨false, rfl⟩
theorem great_eq (l : List Act_law15) : ∃ g, law15_great 400 l = some g ∧ (g = false → l.length ≤ 40) := by
  unfold law15_great
  by_cases h : (l.length : Int) > 40
  · rw [show decide ((l.length : Int) > 40) = true from decide_eq_true h]
    exact ⟨true, rfl, fun e => by cases e⟩
  · rw [show decide ((l.length : Int) > 40) = false from decide_eq_false h]
    obtain ⟨g, hg⟩ := great_L l (by omega) 400 0 (by omega) (by omega)
    exact ⟨g, hg, fun _ => by omega⟩
theorem storeActs_law {n_ : Int} {l : List Act_law15} {fuse : Int} (hn : isN n_ 256) (hf : isN fuse 256) (hw : ∀ a ∈ l, wfAct_law15 a) : law15_StoreActs 400 n_ l fuse = some true := by
  unfold law15_StoreActs
  obtain ⟨g, h1, h2⟩ := great_eq l
  rw [alive15, bnd_some, Bool.not_true, cond_false, h1, bnd_some]
  cases g with
  | true => rfl
  | false =>
    have hl := h2 rfl
    obtain ⟨s, h3, h4, h5, h6, h7, h8⟩ := new_ok (b := n_.toNat % 32 + 1) (by omega) (by omega)
    rw [cond_false, blocks_eq hn, h3, bnd_some, let_eq]
    refine acts_L (b := n_.toNat % 32 + 1) n_ l fuse _ _ _ _ hw hl 400 0 _ (by omega) (by omega) ?_ h5
    unfold isN at hf
    have e1 : wI64 fuse = fuse := wI64_eq (by omega) (by omega)
    have e2 : mx2 (wI64 fuse) 0 = fuse := by
      rw [e1]
      unfold mx2
      rw [if_neg (by omega)]
    refine ⟨{ h4.d with f0 := ?_, f1 := ?_ }, h4.m, h4.bl⟩
    · show 0 ≤ mx2 (wI64 fuse) 0
      rw [e2]; omega
    · show mx2 (wI64 fuse) 0 ≤ 255
      rw [e2]; omega
end Go.Am
