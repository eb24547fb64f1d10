/-
  The run of the initialisers leaves what is listed. No condition.
-/
import Derived.Test.YtfkhilehbikaaaaGreatDoorTieList
namespace Go.Proofs.YtfkhilehbikaaaaGreatDoor
open Go
set_option maxRecDepth 100000
theorem tr : ∀ os tape, doorLeaves Tryz.prog 77 8 65 tieLaid os tape = some (tieLaid.filter fun x => x.2.handleName?.isNone, (funcsListed tieLaid).map (·.2.funcsOut)) := fun _ _ => by kernel_rfl
end Go.Proofs.YtfkhilehbikaaaaGreatDoor
