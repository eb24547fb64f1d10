/-
  The kinds of the listed variables, by the words of the door. No condition.
-/
import Derived.Test.YtfkhilehbikaaaaGreatDoorTieList
namespace Go.Proofs.YtfkhilehbikaaaaGreatDoor
open Go
set_option maxRecDepth 100000
theorem tk : tieLaid.map (fun x => Tryz.prog.kindOfLater x.1) = tieKinds.map some := by kernel_rfl
end Go.Proofs.YtfkhilehbikaaaaGreatDoor
