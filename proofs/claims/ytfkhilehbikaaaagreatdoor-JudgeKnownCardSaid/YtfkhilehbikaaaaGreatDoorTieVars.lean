/-
  The listed variables are laid in order. No condition.
-/
import Derived.Test.YtfkhilehbikaaaaGreatDoorTieList
namespace Go.Proofs.YtfkhilehbikaaaaGreatDoor
open Go
set_option maxRecDepth 100000
theorem tn : varsNamedLaterB Tryz.prog (varsId Tryz.prog) tieLaid = true := by kernel_rfl
end Go.Proofs.YtfkhilehbikaaaaGreatDoor
