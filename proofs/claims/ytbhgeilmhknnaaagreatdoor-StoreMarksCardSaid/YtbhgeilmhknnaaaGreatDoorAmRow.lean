/- The abstract machine, part 10b: an append to nothing that makes a row of its own, to be written into. -/
import Derived.Test.YtbhgeilmhknnaaaGreatDoorAmOp
namespace Go.Am
section
variable {P : Program} {G : Gh} {h : List Box} {w : World}
def evAppR (P : Program) (t tx : TypeId) (s x : AV) (h : List Box) (nb : Nat) : Option OR :=
  match sle P t, sle P tx, x.items, s, h[nb]? with
  | some (sz, _, by_), some _, some ys, .full [], some .hole =>
    if 0 < by_ ∧ ys.length * by_ ≤ 140737488355328 ∧ ys.length ≠ 0 ∧ ys.all (fun y => y.size == sz) = true then some (.box nb (.row ys sz) (.msl nb ys.length)) else none
  | _, _, _, _, _ => none
theorem appR_okay {t tx ty : TypeId} {s x : AV} {c cx : Value} {nb : Nat} {r : OR} (hh : HeapOK G h w) (hz : elemZero P t) (hs : OccV G s c) (hx : OccV G x cx) (e : evAppR P t tx s x h nb = some r) :
    Okay P (do pure (.value (← Builtin.append_ #[t, tx] ty #[c, cx]))) G h w r := by
  unfold evAppR at e
  split at e
  · rename_i sz a by_ p2 ys hsl hsl2 hys hnb
    split at e
    · rename_i hc
      obtain ⟨hb0, hb, hy0, hya⟩ := hc
      cases e
      obtain ⟨el, hu, hl, hs0, hby⟩ := sle_spec hsl
      obtain ⟨el2, hu2, _, _, _⟩ := sle_spec (t := tx) (P := P) (s := p2.1) (a := p2.2.1) (by_ := p2.2.2) (by simpa using hsl2)
      obtain ⟨el', ie, z, hu', hie, hzz, hzs⟩ := hz
      rw [hu] at hu'
      injection hu' with hu'
      injection hu' with hu'
      subst hu'
      have hies : ie.size = sz := by
        have h5 := (lay_spec hl w).1
        simp [sizeOf, typeInfo, hie] at h5
        exact h5
      have hieb : ie.bytes = by_ := by simpa [Program.bytesOf, hie] using hby
      have hya' : ∀ y ∈ ys, y.size = sz := by simpa using hya
      obtain ⟨ns, n1, n2, n3⟩ := src_of (P := P) hh hu2 hx hys hya'
      have hle : ys.length ≤ 140737488355328 := Nat.le_trans (Nat.le_mul_of_pos_right _ hb0) hb
      obtain ⟨base, hcv⟩ : ∃ base : Option Addr, c = .slice base 0 0 := by
        cases occV_leaf hs rfl rfl with
        | fulln => exact ⟨_, rfl⟩
        | full => exact ⟨_, rfl⟩
      subst hcv
      have ho3 : (Builtin.firstCells ie.size 0 (.slice base 0 0)).run P w.drew = .ok ([] : List Value).toArray w.drew := by
        cases base with
        | none => simp [Builtin.firstCells]
        | some p => simp [Builtin.firstCells, loadCells, loadCellsFrom]
      have hfit : Builtin.nextslicecap (0 + ys.length) 0 * ie.bytes ≤ 281474976710656 := by
        have h1 := Nat.mul_le_mul_right by_ (Go.Room.nextslicecap_le' (show 0 < 0 + ys.length by omega))
        rw [Nat.mul_assoc] at h1
        rw [hieb]
        rw [Nat.zero_add] at h1 ⊢
        omega
      have hrun := run_append_grow_src (P := P) (w := w) t tx ty el ie z hu hie hzz base 0 0 [] ho3 cx ys.length ns (by rw [hies]; exact n3) (by omega) (by omega) hfit
      have hgc := grownCap_ge w (0 + ys.length) 0 el
      generalize hG : grownCap w (0 + ys.length) 0 el = nc at hrun hgc
      have hhd : HeapOK G h w.drew := hh.heap rfl
      have hlt : nb < G.mu.length := by rw [hh.mulen]; exact (List.getElem?_eq_some_iff.1 hnb).1
      obtain ⟨k1, k2⟩ := alloc_box hhd nb (([] ++ ns).toArray ++ Builtin.zeroCells z.cells (nc - (0 + ys.length))) el (.row ys sz) hnb
        ⟨w.drew.heap.size, _, el, by simp [hlt], heap_alloc_at, by
          have h9 := row_len n1 hya'
          rw [List.nil_append, Array.toList_append, List.take_append_of_le_length (by simp; omega), List.take_of_length_le (by simp; omega)]
          exact n1, hya', by omega, fun o => hhd.knew (Nat.le_refl _)⟩
      have hd : Ext G G w w.drew := Ext.heap rfl rfl rfl rfl
      exact ⟨_, _, _, .slice (some ⟨w.heap.size, 0, none⟩) (0 + ys.length) nc, by simp only [Sem.run_bind, hrun, Result.andThen_ok, Sem.run_pure], .inl rfl, k1, rfl, hd.trans k2, .one rfl (by
        have := OccA.msl (G := { G with mu := G.mu.set nb (some w.drew.heap.size) }) (b := nb) (n := 0 + ys.length) (c := nc) (blk := w.drew.heap.size) (by simp [hlt]) hgc
        rw [Nat.zero_add] at this ⊢
        exact this)⟩
    · cases e
  · cases e
def evRow (P : Program) (o : Op) (e : Operand → AV) (h : List Box) (nb : Nat) : Option OR :=
  match o with
  | .call c => match c.callee, c.argTypes.toList, c.args.toList.map e with
    | .builtin .append, [t, tx], [s, x] => if ezero P t = true then evAppR P t tx s x h nb else none
    | _, _, _ => none
  | _ => none
theorem rowOp_okay {o : Oper} {ρ : Operand → Value} {e : Operand → AV} {nb : Nat} {r : OR} (hh : HeapOK G h w) (he : ∀ x, OccV G (e x) (ρ x)) (hr : evRow P o.op e h nb = some r) : Okay P (execOp ρ o) G h w r := by
  unfold execOp
  generalize o.op = op at *
  cases op <;> simp only [evRow] at hr <;> try (cases hr; done)
  case call c =>
    split at hr
    · rename_i t tx s x hb hty hax
      split at hr
      · rename_i hz
        have hx := occVL_of he c.args.toList
        rw [hax] at hx
        generalize hcs : c.args.toList.map ρ = cs at hx
        cases hx with
        | cons h1 ht => cases ht with
          | cons h2 ht => cases ht with
            | nil =>
              rename_i v1 v2
              obtain ⟨nx, w', G', v, h3, h4⟩ := appR_okay (w := w) (ty := o.type) hh (ezero_spec hz) h1 h2 hr
              refine ⟨nx, w', G', v, ?_, h4⟩
              simp only [resolve, hb, Sem.run_bind, Sem.run_pure, Result.andThen_ok, invoke]
              rw [← h3]
              have e1 : c.argTypes = #[t, tx] := by
                apply Array.ext'
                simpa using hty
              have e2 : c.args.map ρ = #[v1, v2] := by
                apply Array.ext'
                simpa using hcs
              rw [e1, e2]
              rfl
      · cases hr
    · cases hr
  
end
end Go.Am
