/-
  The evaluator, run by the kernel over JudgeKnown: it answers true. No condition.
-/
import Derived.Test.YtfkhilehbikaaaaGreatDoorProg
import Derived.Test.YtfkhilehbikaaaaGreatDoorEvLawK
import Derived.KernelRfl
namespace Go.Proofs.YtfkhilehbikaaaaGreatDoor
set_option maxRecDepth 1000000
theorem run_true : Go.Ev.checks Tryz.prog 3 400000 = true := by kernel_rfl
end Go.Proofs.YtfkhilehbikaaaaGreatDoor
