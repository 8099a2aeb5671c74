/- The abstract machine, part 22: calls that write through pointers, as the generator states and uses them. -/
import Derived.Test.YtbhgeilmhknnaaaGreatDoorAmFrame
namespace Go.Am

theorem setAll_twice {α : Type} : ∀ (m : List Nat) (E E' h : List α), m.Nodup → E.length = E'.length → setAll (setAll h m E) m E' = setAll h m E'
  | [], _, _, h, _, _ => by simp [setAll]
  | i :: m, [], [], h, _, _ => by simp [setAll]
  | i :: m, x :: E, y :: E', h, hn, hl => by
    simp only [List.nodup_cons] at hn
    show setAll ((setAll (h.set i x) m E).set i y) m E' = setAll (h.set i y) m E'
    rw [← setAll_set _ _ _ _ _ hn.1, List.set_set]
    exact setAll_twice m E E' _ hn.2 (by simpa using hl)
  | i :: m, [], _ :: _, h, _, hl => by simp at hl
  | i :: m, _ :: _, [], h, _, hl => by simp at hl

section
variable {P : Program}
/-- With arguments and boxes that say more. -/
theorem CallL.fit {f : FuncId} {args args' : List AV} {m : List Nat} {E0 E E' : List Box} {mt : List Nat} {T T' : List (Option Nat)} {r : AV} (h : CallL P f args m E mt T r E' T') (bs : List Nat) (hE : datB bs E0 0 = E) (hm : m.Nodup) (hl : E'.length = m.length) (hl0 : E0.length = m.length) (hfit : Fit args' args) :
    CallL P f args' m E0 mt T r E' T' := by
  intro hp k h1 h2
  have hlE : E.length = E0.length := by rw [← hE]; exact datB_len _ _
  have hlt : ∀ b ∈ m, b < hp.length := by
    intro b hb
    obtain ⟨i, hi, rfl⟩ := mem_getD hb
    have h3 := map_some h1 hi
    obtain ⟨x, hx⟩ : ∃ x, E0[i]? = some x := ⟨_, List.getElem?_eq_getElem (by omega)⟩
    rw [hx] at h3
    exact (List.getElem?_eq_some_iff.1 h3).1
  have hat : m.map ((setAll hp m E)[·]?) = E.map some := by
    apply List.ext_getElem?
    intro i
    by_cases hi : i < m.length
    · rw [map_at (f := fun b => (setAll hp m E)[b]?) hi, setAll_at m E hp i hm (by omega) hlt hi, List.getElem?_map]
      rw [List.getElem?_eq_getElem (by omega)]
      rfl
    · rw [List.getElem?_eq_none (by simp; omega), List.getElem?_eq_none (by simp; omega)]
  obtain ⟨hent, hok⟩ := h (setAll hp m E) k hat h2
  refine ⟨hent, fun G w cs hh hK hk hargs => ?_⟩
  have hh2 : HeapOK G (setAll hp m E) w := by
    refine heap_dat hh (setAll_length _ _ _) fun b y hy => ?_
    by_cases hb : b ∈ m
    · obtain ⟨i, hi, rfl⟩ := mem_getD hb
      rw [setAll_at m E hp i hm (by omega) hlt hi, ← hE] at hy
      obtain ⟨x, hx, hxy⟩ := datB_get E0 0 i y hy
      exact ⟨x, by rw [map_some h1 hi]; exact hx, hxy⟩
    · rw [setAll_out _ _ _ _ hb] at hy
      exact ⟨y, hy, .inl rfl⟩
  refine (hok G w cs hh2 hK hk (occVL_fit hfit hargs)).mono ?_
  rintro e w' ⟨G', v, rfl, g1, g2, g3, g4⟩
  rw [setAll_twice m E E' hp hm (by omega)] at g1
  exact ⟨G', v, rfl, g1, g2, g3, g4⟩

def nodupB : List Nat → Bool
  | [] => true
  | x :: l => !l.contains x && nodupB l
theorem nodupB_ok : ∀ {l : List Nat}, nodupB l = true → l.Nodup
  | [], _ => .nil
  | x :: l, h => by
    simp only [nodupB, Bool.and_eq_true, Bool.not_eq_true', ← Bool.not_eq_true, List.contains_iff_mem] at h
    exact List.nodup_cons.2 ⟨h.1, nodupB_ok h.2⟩
def frmX (m mt : List Nat) (args : List AV) (E E' : List Box) (T T' : List (Option Nat)) (r : AV) : Bool :=
  nodupB m && nodupB mt && Nat.beq m.length E.length && Nat.beq m.length E'.length && Nat.beq mt.length T.length && Nat.beq mt.length T'.length && AV.bndL m.length mt.length args && E.all (Box.bnd m.length mt.length) && r.bnd m.length mt.length && E'.all (Box.bnd m.length mt.length)
/-- A call by its contract. The rows E0, args' are what is there; bs: boxes to be taken as data. -/
theorem callL {f : FuncId} {args args' argsR : List AV} {E E' E0 ER ER' : List Box} {T T' : List (Option Nat)} {r rR : AV} (h : CallOK P f args E T r E' T') (m mt : List Nat) (bs : List Nat) (hx : frmX m mt args E E' T T' r = true)
    (he : (AV.renL m mt args, E.map (Box.ren m mt), r.ren m mt, E'.map (Box.ren m mt)) = (argsR, ER, rR, ER')) (hd : datB bs E0 0 = ER) (hf : args'.map AV.dat = argsR) : CallL P f args' m E0 mt T rR ER' T' := by
  simp only [frmX, Bool.and_eq_true] at hx
  obtain ⟨⟨⟨⟨⟨⟨⟨⟨⟨h1, h2⟩, h3⟩, h4⟩, h5⟩, h6⟩, h7⟩, h8⟩, h9⟩, h10⟩ := hx
  simp only [Prod.mk.injEq] at he
  obtain ⟨rfl, rfl, rfl, rfl⟩ := he
  have h3 := Nat.eq_of_beq_eq_true h3
  have h4 := Nat.eq_of_beq_eq_true h4
  have hfr := frame h m mt (nodupB_ok h1) (nodupB_ok h2) h3 h4 (Nat.eq_of_beq_eq_true h5) (Nat.eq_of_beq_eq_true h6) h7 h8 h9 h10
  have hlen : E0.length = m.length := by
    have := congrArg List.length hd
    rw [datB_len, List.length_map] at this
    omega
  exact hfr.fit bs hd (nodupB_ok h1) (by simp; omega) hlen (hf ▸ fit_dat args')
end
end Go.Am
