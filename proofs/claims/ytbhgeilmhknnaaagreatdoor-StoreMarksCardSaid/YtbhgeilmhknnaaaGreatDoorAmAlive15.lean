/- What is closed in the statements of layer 15: computed by the kernel. -/
import Derived.Test.YtbhgeilmhknnaaaGreatDoorAmF7
import Derived.KernelRfl
namespace Go.Am
open Go.Proofs
set_option maxRecDepth 100000
theorem alive15 : law15_alive 400 = some true := by kernel_rfl
end Go.Am
