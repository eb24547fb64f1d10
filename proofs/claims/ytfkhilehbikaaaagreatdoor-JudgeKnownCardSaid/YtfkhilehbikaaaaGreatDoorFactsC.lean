/-
  A closed fact of the row: the variables that the call names. No condition.
-/
import Derived.Test.YtfkhilehbikaaaaGreatDoorRows
import Derived.Test.YtfkhilehbikaaaaGreatDoorReached
namespace Go.Proofs.YtfkhilehbikaaaaGreatDoor
open Go
set_option maxRecDepth 1000000
theorem fact12 : (Rows.judgeKnownRow.named == Tryz.prog.varsNamed 3) = true := by
  unfold Program.varsNamed
  rw [closure_eq]
  kernel_rfl
end Go.Proofs.YtfkhilehbikaaaaGreatDoor
