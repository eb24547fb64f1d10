/-
  Closed facts of the row: those that hang on what the call comes to. No condition.
-/
import Derived.Test.YtfkhilehbikaaaaGreatDoorRows
import Derived.Test.YtfkhilehbikaaaaGreatDoorReached
namespace Go.Proofs.YtfkhilehbikaaaaGreatDoor
open Go
set_option maxRecDepth 1000000
theorem fact9 : (Rows.judgeKnownRow.inPlace == Tryz.prog.inPlace 3) = true := by
  unfold Program.inPlace
  rw [closure_eq]
  kernel_rfl
theorem fact10 : (Rows.judgeKnownRow.unfollowed == Tryz.prog.unfollowed 3) = true := by rw [unfollowed_true]; rfl
theorem fact11 : (Rows.judgeKnownRow.recurses == Tryz.prog.recurses 3) = true := by rw [recurses_true]; rfl
end Go.Proofs.YtfkhilehbikaaaaGreatDoor
