/-
  The words of the door stand in the translation. No condition.
-/
import Derived.Test.YtfkhilehbikaaaaGreatDoorTieList
namespace Go.Proofs.YtfkhilehbikaaaaGreatDoor
open Go
set_option maxRecDepth 100000
theorem ta : Tryz.prog.worded (varsWordLater true) = true := by kernel_rfl
theorem ta2 : Tryz.prog.worded (varsWordLater !true) = false := by kernel_rfl
theorem ta3 : Tryz.prog.worded rootWordLater = true := by kernel_rfl
theorem tg : (Tryz.prog.funcNamed "gosem.cut.vars").isSome = true := by kernel_rfl
end Go.Proofs.YtfkhilehbikaaaaGreatDoor
