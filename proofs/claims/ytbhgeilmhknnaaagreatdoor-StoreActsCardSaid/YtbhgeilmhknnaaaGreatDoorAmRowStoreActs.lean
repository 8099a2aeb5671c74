/- Proved: Rows.StoreActsCardSaid, the tied card of the law geminationlaw15.StoreActs: at every input the call returns true and leaves its arguments as they read. Conditions: none beyond the card's own (the listed variable errors.errorType, tied to the program's text). Printed by mkrow.py. -/
import Derived.Test.YtbhgeilmhknnaaaGreatDoorAmLaid
import Derived.Test.YtbhgeilmhknnaaaGreatDoorAmJoin
import Derived.Test.YtbhgeilmhknnaaaGreatDoorAmF7
import Derived.Test.YtbhgeilmhknnaaaGreatDoorAmP4
import Derived.Test.YtbhgeilmhknnaaaGreatDoorCards
import Derived.Test.YtbhgeilmhknnaaaGreatDoorTie
namespace Go.Proofs.YtbhgeilmhknnaaaGreatDoor
open Go Go.Am Go.Proofs Go.ChangeShapes Go.WideShapes Go.ChangeAt Go.RowKit
open Go.ChangeMaps (open_string shut_string)
set_option maxRecDepth 100000
theorem storeActs_lifted (os : Os) (started : os.Started) (H : Type) (enc : TypeId × Value → H) :
    ReturnsInHanded {} Tryz.checked os 3 .any (fun w args => (Rows.storeActsSpec.pre enc Tryz.prog Tryz.f3 [] false w args ∧ laidMetH Tryz.prog [("errors.errorType", Rows.laid_errors_errorType)] w) ∧ sizedMet enc Tryz.prog Tryz.f3 (OpenSpec.ofChange Rows.storeActsSpec) false w args)
      (Rows.storeActsSpec.post enc Tryz.prog Tryz.f3 false true false false) := by
  refine returnsInHanded_of_change_and (C := Tryz.checked) (X := fun w _ => laidMetH Tryz.prog [("errors.errorType", Rows.laid_errors_errorType)] w) (fun _ _ _ hh h => h.of_heap hh) Go.Am.own started (by kernel_rfl) Tryz.func3
    (ChangeSpec.witness_at (enc := enc) (C := Tryz.checked) (os := os) (X := fun w _ => laidMetH Tryz.prog [("errors.errorType", Rows.laid_errors_errorType)] w) false (laidWorld os) #[.int .u8 0, .slice none 0 0, .int .u8 0] 8 rfl (by kernel_rfl) (by kernel_rfl) (by kernel_rfl) (by kernel_rfl) (by kernel_rfl) (laidWorld_met os _)) ?_
  intro W base args ds gs before hval0 hW _ _ hL _
  have hval : ∀ (j : Nat) t v, Tryz.f3.params[j]? = some t → args[j]? = some v → Value.okWide Tryz.prog W .any base t v := hval0
  have hW' := hW
  obtain ⟨p, q, hA0, hV, rfl, hfz, hnd⟩ := hW
  have hA : DataW.TrodAll enc Tryz.prog W 0 (fun _ => true) true Tryz.f3.params.toList args.toList ds p := hA0
  rw [Tryz.params3] at hA hval
  obtain ⟨v0, vs0, d0, ds0, p0, q0, hargs, rfl, rfl, h0, r0⟩ := trodAll_cons hA
  obtain ⟨v1, vs1, d1, ds1, p1, q1, rfl, rfl, rfl, h1, r1⟩ := trodAll_cons r0
  obtain ⟨v2, vs2, d2, ds2, p2, q2, rfl, rfl, rfl, h2, r2⟩ := trodAll_cons r1
  obtain ⟨rfl, rfl, rfl⟩ := trodAll_nil r2
  obtain rfl : args = #[v0, v1, v2] := by cases args; simp_all
  obtain ⟨rfl, rfl⟩ := trodVars_none hV
  obtain ⟨a0, rfl, rfl, rfl, w0⟩ := open_int Tryz.underlying5 (hval 0 5 v0 rfl rfl) h0
  have k1 := h1
  have lt1 : ∀ x ∈ p1, x.block < W.heap.size := by obtain ⟨m, hm⟩ := k1; exact DataW.trod_lt m _ _ _ hm
  obtain ⟨m1, hm1⟩ := h1
  obtain ⟨L1, e1, c1, o1⟩ := trod_slice (f := 12) (ty := tyAct_law15) Tryz.underlying22 (by kernel_rfl) (by kernel_rfl) (of_decide_eq_true (by kernel_rfl)) (slice_arg Tryz.underlying22 (hval 1 22 v1 rfl rfl)) hm1
  obtain ⟨a1, rfl, w1⟩ := hasE_map (fun x h => has_Act_law15 h) e1
  obtain ⟨a2, rfl, rfl, rfl, w2⟩ := open_int Tryz.underlying5 (hval 2 5 v2 rfl rfl) h2
  clear hA0 hval0
  refine (vf_run (t_law15_StoreActs (storeActs_law (n_ := a0) (l := a1) (fuse := a2) (wfU8 w0) (wfU8 w2) w1)) (kok_of_laid hL) (.cons (occV_val rfl (.int _ _)) (.cons (occV_val rfl o1) (.cons (occV_val rfl (.int _ _)) .nil)))).mono fun e W' ⟨he, bel⟩ => ?_
  subst he
  exact ⟨_, rfl, _, _, _, [], _, [], hW', trodAll_mk1 (shut_bool Tryz.underlying4 _), (trodAll_cons_mk (shut_int Tryz.underlying5 w0) (trodAll_cons_mk (Below.trod laidOut (by kernel_rfl) (of_decide_eq_true (by kernel_rfl)) k1 bel lt1) (trodAll_cons_mk (shut_int Tryz.underlying5 w2) trodAll_mk0))), rfl, bel.frame _, fun h => by cases h⟩
theorem storeActs_j0 : (Rows.storeActsRow.wf (OpenSpec.ofChange Rows.storeActsSpec)) = true := by kernel_rfl
theorem storeActs_j3 : (Tryz.f3.params.all (Tryz.prog.readableRec ·)) = true := by kernel_rfl
theorem storeActs_j4 : (namedTie Tryz.prog Rows.storeActsRow.named Rows.storeActsSpec.vars) = true := by kernel_rfl
theorem storeActs_j5 : ((Rows.storeActsRow.stops == [])) = true := by kernel_rfl
theorem storeActs_j7 : ((Rows.storeActsRow.knobs == [])) = true := by kernel_rfl
theorem storeActs_j9 : ((Rows.storeActsRow.inPlace == Tryz.prog.inPlace 3)) = true := by kernel_rfl
theorem storeActs_j10 : ((Rows.storeActsRow.unfollowed == Tryz.prog.unfollowed 3)) = true := by kernel_rfl
theorem storeActs_j11 : ((Rows.storeActsRow.recurses == Tryz.prog.recurses 3)) = true := by kernel_rfl
theorem storeActs_j12 : ((Rows.storeActsRow.named == Tryz.prog.varsNamed 3)) = true := by kernel_rfl
theorem storeActs_j13 : ((Rows.storeActsRow.maps == (Tryz.f3.params.toList ++ Rows.storeActsSpec.plain.varTypes Tryz.prog).any (Tryz.prog.mapsRec ·))) = true := by kernel_rfl
theorem storeActs_j14 : ((Rows.storeActsRow.ifaces == (Tryz.f3.params.toList ++ Rows.storeActsSpec.plain.varTypes Tryz.prog).any (Tryz.prog.ifacesRec ·))) = true := by kernel_rfl
theorem storeActs_j15 : ((Rows.storeActsRow.mapsOut == Tryz.prog.mapsAmong Tryz.f3.resultTypes.toList)) = true := by kernel_rfl
theorem storeActs_j16 : ((Rows.storeActsRow.loops == (Tryz.f3.params.toList ++ Rows.storeActsSpec.plain.varTypes Tryz.prog).any (Tryz.prog.loopsFrom ·))) = true := by kernel_rfl
theorem storeActs_j17 : ((Rows.storeActsRow.wideKeys == (Tryz.f3.params.toList ++ Rows.storeActsSpec.plain.varTypes Tryz.prog ++ Tryz.f3.resultTypes.toList).any (Tryz.prog.wideKeysFrom ·))) = true := by kernel_rfl
theorem storeActs_j18 : (Rows.storeActsSpec.vars.all (Tryz.prog.varReadable ·)) = true := by kernel_rfl
theorem storeActs_j19 : (Tryz.f3.resultTypes.all (fun t => Tryz.prog.readableRec t && decide (t < Tryz.prog.types.size))) = true := by kernel_rfl
theorem storeActs_j20 : ((Rows.storeActsRow.ifacesOut == Tryz.f3.resultTypes.toList.any (Tryz.prog.ifacesRec ·))) = true := by kernel_rfl
theorem storeActs_j21 : ((Rows.storeActsRow.loopsOut == Tryz.f3.resultTypes.toList.any (Tryz.prog.loopsFrom ·))) = true := by kernel_rfl
theorem storeActs_j22 : ((Rows.storeActsRow.plainKeys == Tryz.prog.plainKeys)) = true := by kernel_rfl
theorem storeActs_j23 : (Rows.storeActsRow.shortTexts.isNone) = true := by kernel_rfl
theorem storeActs_j26 : ((Rows.storeActsRow.lifted == Tryz.prog.liftsFinal)) = true := by kernel_rfl
theorem storeActs_j27 : ((Tryz.prog.make == some Rows.storeActsRow.make)) = true := by kernel_rfl
theorem storeActs_j28 : ((Rows.storeActsRow.kinds == (if Rows.storeActsRow.domain.isEmpty then [] else Tryz.f3.params.toList.map fun t => match Tryz.prog.underlying t with | some (.int k) => some k | _ => none))) = true := by kernel_rfl
theorem storeActs_j29 : ((Rows.storeActsRow.pinned == Rows.storeActsRow.pinnedBy)) = true := by kernel_rfl
theorem storeActs_j30 : ((Rows.storeActsRow.veiled == (Tryz.f3.params.toList ++ Rows.storeActsSpec.plain.varTypes Tryz.prog ++ Tryz.f3.resultTypes.toList).any (Tryz.prog.veiledRec ·))) = true := by kernel_rfl
theorem storeActs_j31 : (Rows.storeActsRow.veiledFits Tryz.prog Tryz.f3.params.toList (Tryz.f3.params.toList ++ Rows.storeActsSpec.plain.varTypes Tryz.prog ++ Tryz.f3.resultTypes.toList)) = true := by kernel_rfl
theorem storeActs_joined : joinedFacts Tryz.prog 3 Tryz.f3 Rows.storeActsSpec Rows.storeActsRow = true :=
  (and2 (and2 (and2 (and2 (and2 (and2 (and2 (and2 (and2 (and2 (and2 (and2 (and2 (and2 (and2 (and2 (and2 (and2 (and2 (and2 (and2 (and2 (and2 (and2 (and2 (and2 (and2 (and2 (and2 (and2 (and2 storeActs_j0 jp0) jp1) storeActs_j3) storeActs_j4) storeActs_j5) jp2) storeActs_j7) jp3) storeActs_j9) storeActs_j10) storeActs_j11) storeActs_j12) storeActs_j13) storeActs_j14) storeActs_j15) storeActs_j16) storeActs_j17) storeActs_j18) storeActs_j19) storeActs_j20) storeActs_j21) storeActs_j22) storeActs_j23) jp4) jp5) storeActs_j26) storeActs_j27) storeActs_j28) storeActs_j29) storeActs_j30) storeActs_j31)
theorem storeActs_named : Tryz.prog.funcNamed "gemination/geminationlaw15.StoreActs" = some 3 := by kernel_rfl
theorem storeActs_wf : Rows.storeActsRow.wfByText (OpenSpec.ofChange Rows.storeActsSpec) = true := by kernel_rfl
theorem storeActs_main : Tryz.prog.mainIs = some (true, "9a2f52b572102099535f2b1acb098b697919781de6afeb09a5b1bbe84613e2d0".toList) := by kernel_rfl
theorem storeActs_looks : true = Tryz.prog.looks [] := by kernel_rfl
theorem storeActs_stand : ([5, 22, 5].all fun u => !Tryz.prog.wantsStandIn u) = true := by kernel_rfl
theorem storeActs_goes : false = Rows.storeActsRow.goesBy Tryz.prog := by kernel_rfl
theorem storeActs_row : Rows.StoreActsSaid :=
  OpenClaim.holds_of_wide 3 Tryz.f3 rfl rfl rfl rfl rfl rfl rfl ⟨rfl, rfl, rfl, rfl, rfl⟩ rfl rfl rfl rfl rfl storeActs_named Tryz.func3 storeActs_joined
    (of_decide_eq_true (by kernel_rfl)) (by unfold Func.isWrapper; rw [if_neg (of_decide_eq_false (by kernel_rfl))]; exact ⟨rfl, rfl⟩)
    (fun os started H enc _ => storeActs_lifted os started H enc)
theorem storeActs_card : Rows.StoreActsCardSaid :=
  Claim7.holds_tied_plain_at .later [] [.handle] true (true, "9a2f52b572102099535f2b1acb098b697919781de6afeb09a5b1bbe84613e2d0") true
    storeActs_row (fun _ h => by cases h) storeActs_wf (fun _ h => by cases h) storeActs_row_tie rfl ⟨rfl, rfl⟩ storeActs_main rfl
    (fun f fn hf hfn => by
      obtain rfl : f = 3 := Option.some.inj (storeActs_named.symm.trans hf) |>.symm
      obtain rfl : fn = Tryz.f3 := (Option.some.inj (Tryz.func3.symm.trans hfn)).symm
      exact ⟨storeActs_looks, fun j t ht => by
        rw [Tryz.params3] at ht
        have hm : t ∈ [5, 22, 5] := by simpa using Array.mem_of_getElem? ht
        exact (show Tryz.prog.wantsStandIn t = false by simpa using List.all_eq_true.1 storeActs_stand t hm)⟩)
    storeActs_goes
end Go.Proofs.YtbhgeilmhknnaaaGreatDoor
