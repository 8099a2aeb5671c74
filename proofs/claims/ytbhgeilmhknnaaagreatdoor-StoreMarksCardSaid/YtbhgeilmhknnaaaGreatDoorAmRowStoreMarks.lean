/- Proved: Rows.StoreMarksCardSaid, the tied card of the law geminationlaw15.StoreMarks: at every input the call returns true and leaves its arguments as they read. Conditions: none beyond the card's own (the listed variable errors.errorType, tied to the program's text). Printed by mkrow.py. -/
import Derived.Test.YtbhgeilmhknnaaaGreatDoorAmLaid
import Derived.Test.YtbhgeilmhknnaaaGreatDoorAmJoin
import Derived.Test.YtbhgeilmhknnaaaGreatDoorAmF7
import Derived.Test.YtbhgeilmhknnaaaGreatDoorAmP5
import Derived.Test.YtbhgeilmhknnaaaGreatDoorCards
import Derived.Test.YtbhgeilmhknnaaaGreatDoorTie
namespace Go.Proofs.YtbhgeilmhknnaaaGreatDoor
open Go Go.Am Go.Proofs Go.ChangeShapes Go.WideShapes Go.ChangeAt Go.RowKit
open Go.ChangeMaps (open_string shut_string)
set_option maxRecDepth 100000
theorem storeMarks_lifted (os : Os) (started : os.Started) (H : Type) (enc : TypeId × Value → H) :
    ReturnsInHanded {} Tryz.checked os 4 .any (fun w args => (Rows.storeMarksSpec.pre enc Tryz.prog Tryz.f4 [] false w args ∧ laidMetH Tryz.prog [("errors.errorType", Rows.laid_errors_errorType)] w) ∧ sizedMet enc Tryz.prog Tryz.f4 (OpenSpec.ofChange Rows.storeMarksSpec) false w args)
      (Rows.storeMarksSpec.post enc Tryz.prog Tryz.f4 false true false false) := by
  refine returnsInHanded_of_change_and (C := Tryz.checked) (X := fun w _ => laidMetH Tryz.prog [("errors.errorType", Rows.laid_errors_errorType)] w) (fun _ _ _ hh h => h.of_heap hh) Go.Am.own started (by kernel_rfl) Tryz.func4
    (ChangeSpec.witness_at (enc := enc) (C := Tryz.checked) (os := os) (X := fun w _ => laidMetH Tryz.prog [("errors.errorType", Rows.laid_errors_errorType)] w) false (laidWorld os) #[.int .u8 0, .slice none 0 0, .slice none 0 0] 8 rfl (by kernel_rfl) (by kernel_rfl) (by kernel_rfl) (by kernel_rfl) (by kernel_rfl) (laidWorld_met os _)) ?_
  intro W base args ds gs before hval0 hW _ _ hL _
  have hval : ∀ (j : Nat) t v, Tryz.f4.params[j]? = some t → args[j]? = some v → Value.okWide Tryz.prog W .any base t v := hval0
  have hW' := hW
  obtain ⟨p, q, hA0, hV, rfl, hfz, hnd⟩ := hW
  have hA : DataW.TrodAll enc Tryz.prog W 0 (fun _ => true) true Tryz.f4.params.toList args.toList ds p := hA0
  rw [Tryz.params4] at hA hval
  obtain ⟨v0, vs0, d0, ds0, p0, q0, hargs, rfl, rfl, h0, r0⟩ := trodAll_cons hA
  obtain ⟨v1, vs1, d1, ds1, p1, q1, rfl, rfl, rfl, h1, r1⟩ := trodAll_cons r0
  obtain ⟨v2, vs2, d2, ds2, p2, q2, rfl, rfl, rfl, h2, r2⟩ := trodAll_cons r1
  obtain ⟨rfl, rfl, rfl⟩ := trodAll_nil r2
  obtain rfl : args = #[v0, v1, v2] := by cases args; simp_all
  obtain ⟨rfl, rfl⟩ := trodVars_none hV
  obtain ⟨a0, rfl, rfl, rfl, w0⟩ := open_int Tryz.underlying5 (hval 0 5 v0 rfl rfl) h0
  have k1 := h1
  have lt1 : ∀ x ∈ p1, x.block < W.heap.size := by obtain ⟨m, hm⟩ := k1; exact DataW.trod_lt m _ _ _ hm
  obtain ⟨m1, hm1⟩ := h1
  obtain ⟨L1, e1, c1, o1⟩ := trod_slice (f := 12) (ty := .int .i64) Tryz.underlying47 (by kernel_rfl) (by kernel_rfl) (of_decide_eq_true (by kernel_rfl)) (slice_arg Tryz.underlying47 (hval 1 47 v1 rfl rfl)) hm1
  obtain ⟨a1, rfl, w1⟩ := hasE_map (fun x h => has_int h) e1
  have k2 := h2
  have lt2 : ∀ x ∈ p2, x.block < W.heap.size := by obtain ⟨m, hm⟩ := k2; exact DataW.trod_lt m _ _ _ hm
  obtain ⟨m2, hm2⟩ := h2
  obtain ⟨L2, e2, c2, o2⟩ := trod_slice (f := 12) (ty := .int .i64) Tryz.underlying47 (by kernel_rfl) (by kernel_rfl) (of_decide_eq_true (by kernel_rfl)) (slice_arg Tryz.underlying47 (hval 2 47 v2 rfl rfl)) hm2
  obtain ⟨a2, rfl, w2⟩ := hasE_map (fun x h => has_int h) e2
  clear hA0 hval0
  refine (vf_run (t_law15_StoreMarks (storeMarks_law (n_ := a0) (l := a1) (wiped := a2) (wfU8 w0))) (kok_of_laid hL) (.cons (occV_val rfl (.int _ _)) (.cons (occV_val rfl o1) (.cons (occV_val rfl o2) .nil)))).mono fun e W' ⟨he, bel⟩ => ?_
  subst he
  exact ⟨_, rfl, _, _, _, [], _, [], hW', trodAll_mk1 (shut_bool Tryz.underlying4 _), (trodAll_cons_mk (shut_int Tryz.underlying5 w0) (trodAll_cons_mk (Below.trod laidOut (by kernel_rfl) (of_decide_eq_true (by kernel_rfl)) k1 bel lt1) (trodAll_cons_mk (Below.trod laidOut (by kernel_rfl) (of_decide_eq_true (by kernel_rfl)) k2 bel lt2) trodAll_mk0))), rfl, bel.frame _, fun h => by cases h⟩
theorem storeMarks_j0 : (Rows.storeMarksRow.wf (OpenSpec.ofChange Rows.storeMarksSpec)) = true := by kernel_rfl
theorem storeMarks_j3 : (Tryz.f4.params.all (Tryz.prog.readableRec ·)) = true := by kernel_rfl
theorem storeMarks_j4 : (namedTie Tryz.prog Rows.storeMarksRow.named Rows.storeMarksSpec.vars) = true := by kernel_rfl
theorem storeMarks_j5 : ((Rows.storeMarksRow.stops == [])) = true := by kernel_rfl
theorem storeMarks_j7 : ((Rows.storeMarksRow.knobs == [])) = true := by kernel_rfl
theorem storeMarks_j9 : ((Rows.storeMarksRow.inPlace == Tryz.prog.inPlace 4)) = true := by kernel_rfl
theorem storeMarks_j10 : ((Rows.storeMarksRow.unfollowed == Tryz.prog.unfollowed 4)) = true := by kernel_rfl
theorem storeMarks_j11 : ((Rows.storeMarksRow.recurses == Tryz.prog.recurses 4)) = true := by kernel_rfl
theorem storeMarks_j12 : ((Rows.storeMarksRow.named == Tryz.prog.varsNamed 4)) = true := by kernel_rfl
theorem storeMarks_j13 : ((Rows.storeMarksRow.maps == (Tryz.f4.params.toList ++ Rows.storeMarksSpec.plain.varTypes Tryz.prog).any (Tryz.prog.mapsRec ·))) = true := by kernel_rfl
theorem storeMarks_j14 : ((Rows.storeMarksRow.ifaces == (Tryz.f4.params.toList ++ Rows.storeMarksSpec.plain.varTypes Tryz.prog).any (Tryz.prog.ifacesRec ·))) = true := by kernel_rfl
theorem storeMarks_j15 : ((Rows.storeMarksRow.mapsOut == Tryz.prog.mapsAmong Tryz.f4.resultTypes.toList)) = true := by kernel_rfl
theorem storeMarks_j16 : ((Rows.storeMarksRow.loops == (Tryz.f4.params.toList ++ Rows.storeMarksSpec.plain.varTypes Tryz.prog).any (Tryz.prog.loopsFrom ·))) = true := by kernel_rfl
theorem storeMarks_j17 : ((Rows.storeMarksRow.wideKeys == (Tryz.f4.params.toList ++ Rows.storeMarksSpec.plain.varTypes Tryz.prog ++ Tryz.f4.resultTypes.toList).any (Tryz.prog.wideKeysFrom ·))) = true := by kernel_rfl
theorem storeMarks_j18 : (Rows.storeMarksSpec.vars.all (Tryz.prog.varReadable ·)) = true := by kernel_rfl
theorem storeMarks_j19 : (Tryz.f4.resultTypes.all (fun t => Tryz.prog.readableRec t && decide (t < Tryz.prog.types.size))) = true := by kernel_rfl
theorem storeMarks_j20 : ((Rows.storeMarksRow.ifacesOut == Tryz.f4.resultTypes.toList.any (Tryz.prog.ifacesRec ·))) = true := by kernel_rfl
theorem storeMarks_j21 : ((Rows.storeMarksRow.loopsOut == Tryz.f4.resultTypes.toList.any (Tryz.prog.loopsFrom ·))) = true := by kernel_rfl
theorem storeMarks_j22 : ((Rows.storeMarksRow.plainKeys == Tryz.prog.plainKeys)) = true := by kernel_rfl
theorem storeMarks_j23 : (Rows.storeMarksRow.shortTexts.isNone) = true := by kernel_rfl
theorem storeMarks_j26 : ((Rows.storeMarksRow.lifted == Tryz.prog.liftsFinal)) = true := by kernel_rfl
theorem storeMarks_j27 : ((Tryz.prog.make == some Rows.storeMarksRow.make)) = true := by kernel_rfl
theorem storeMarks_j28 : ((Rows.storeMarksRow.kinds == (if Rows.storeMarksRow.domain.isEmpty then [] else Tryz.f4.params.toList.map fun t => match Tryz.prog.underlying t with | some (.int k) => some k | _ => none))) = true := by kernel_rfl
theorem storeMarks_j29 : ((Rows.storeMarksRow.pinned == Rows.storeMarksRow.pinnedBy)) = true := by kernel_rfl
theorem storeMarks_j30 : ((Rows.storeMarksRow.veiled == (Tryz.f4.params.toList ++ Rows.storeMarksSpec.plain.varTypes Tryz.prog ++ Tryz.f4.resultTypes.toList).any (Tryz.prog.veiledRec ·))) = true := by kernel_rfl
theorem storeMarks_j31 : (Rows.storeMarksRow.veiledFits Tryz.prog Tryz.f4.params.toList (Tryz.f4.params.toList ++ Rows.storeMarksSpec.plain.varTypes Tryz.prog ++ Tryz.f4.resultTypes.toList)) = true := by kernel_rfl
theorem storeMarks_joined : joinedFacts Tryz.prog 4 Tryz.f4 Rows.storeMarksSpec Rows.storeMarksRow = true :=
  (and2 (and2 (and2 (and2 (and2 (and2 (and2 (and2 (and2 (and2 (and2 (and2 (and2 (and2 (and2 (and2 (and2 (and2 (and2 (and2 (and2 (and2 (and2 (and2 (and2 (and2 (and2 (and2 (and2 (and2 (and2 storeMarks_j0 jp0) jp1) storeMarks_j3) storeMarks_j4) storeMarks_j5) jp2) storeMarks_j7) jp3) storeMarks_j9) storeMarks_j10) storeMarks_j11) storeMarks_j12) storeMarks_j13) storeMarks_j14) storeMarks_j15) storeMarks_j16) storeMarks_j17) storeMarks_j18) storeMarks_j19) storeMarks_j20) storeMarks_j21) storeMarks_j22) storeMarks_j23) jp4) jp5) storeMarks_j26) storeMarks_j27) storeMarks_j28) storeMarks_j29) storeMarks_j30) storeMarks_j31)
theorem storeMarks_named : Tryz.prog.funcNamed "gemination/geminationlaw15.StoreMarks" = some 4 := by kernel_rfl
theorem storeMarks_wf : Rows.storeMarksRow.wfByText (OpenSpec.ofChange Rows.storeMarksSpec) = true := by kernel_rfl
theorem storeMarks_main : Tryz.prog.mainIs = some (true, "9a2f52b572102099535f2b1acb098b697919781de6afeb09a5b1bbe84613e2d0".toList) := by kernel_rfl
theorem storeMarks_looks : true = Tryz.prog.looks [] := by kernel_rfl
theorem storeMarks_stand : ([5, 47, 47].all fun u => !Tryz.prog.wantsStandIn u) = true := by kernel_rfl
theorem storeMarks_goes : false = Rows.storeMarksRow.goesBy Tryz.prog := by kernel_rfl
theorem storeMarks_row : Rows.StoreMarksSaid :=
  OpenClaim.holds_of_wide 4 Tryz.f4 rfl rfl rfl rfl rfl rfl rfl ⟨rfl, rfl, rfl, rfl, rfl⟩ rfl rfl rfl rfl rfl storeMarks_named Tryz.func4 storeMarks_joined
    (of_decide_eq_true (by kernel_rfl)) (by unfold Func.isWrapper; rw [if_neg (of_decide_eq_false (by kernel_rfl))]; exact ⟨rfl, rfl⟩)
    (fun os started H enc _ => storeMarks_lifted os started H enc)
theorem storeMarks_card : Rows.StoreMarksCardSaid :=
  Claim7.holds_tied_plain_at .later [] [.handle] true (true, "9a2f52b572102099535f2b1acb098b697919781de6afeb09a5b1bbe84613e2d0") true
    storeMarks_row (fun _ h => by cases h) storeMarks_wf (fun _ h => by cases h) storeMarks_row_tie rfl ⟨rfl, rfl⟩ storeMarks_main rfl
    (fun f fn hf hfn => by
      obtain rfl : f = 4 := Option.some.inj (storeMarks_named.symm.trans hf) |>.symm
      obtain rfl : fn = Tryz.f4 := (Option.some.inj (Tryz.func4.symm.trans hfn)).symm
      exact ⟨storeMarks_looks, fun j t ht => by
        rw [Tryz.params4] at ht
        have hm : t ∈ [5, 47, 47] := by simpa using Array.mem_of_getElem? ht
        exact (show Tryz.prog.wantsStandIn t = false by simpa using List.all_eq_true.1 storeMarks_stand t hm)⟩)
    storeMarks_goes
end Go.Proofs.YtbhgeilmhknnaaaGreatDoor
