/- The closed facts of the program that each row asks for. Printed by mkjoin.py. -/
import Derived.Test.YtbhgeilmhknnaaaGreatDoorAmLaid
namespace Go.Am
open Go Go.Proofs Go.Proofs.YtbhgeilmhknnaaaGreatDoor
set_option maxRecDepth 100000
theorem and2 {a b : Bool} (ha : a = true) (hb : b = true) : (a && b) = true := by rw [ha, hb]; rfl
theorem jp0 : laidOutB Tryz.prog = true := by kernel_rfl
theorem jp1 : mapsRowed Tryz.prog = true := by kernel_rfl
theorem jp2 : (Tryz.prog.stops == []) = true := by kernel_rfl
theorem jp3 : (Tryz.prog.stopKnobs == []) = true := by kernel_rfl
theorem jp4 : Tryz.prog.stopsHeard = true := by kernel_rfl
theorem jp5 : Tryz.prog.mayEnter = true := by kernel_rfl
end Go.Am
