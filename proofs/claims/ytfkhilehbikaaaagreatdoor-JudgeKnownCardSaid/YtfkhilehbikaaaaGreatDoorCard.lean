/-
  JudgeKnown returns true: THE CARD. No condition.
-/
import Derived.Test.YtfkhilehbikaaaaGreatDoorCards
import Derived.Test.YtfkhilehbikaaaaGreatDoorSaidRow
import Derived.Test.YtfkhilehbikaaaaGreatDoorPlain
import Derived.Test.YtfkhilehbikaaaaGreatDoorGoesNot
import Derived.Test.YtfkhilehbikaaaaGreatDoorTieRow
import Derived.SevenTiedAt
namespace Go.Proofs.YtfkhilehbikaaaaGreatDoor
open Go.ChangeShapes Go.WideShapes Go.ChangeAt Go.RowKit
set_option maxRecDepth 100000
theorem mainIs : Tryz.pinned.checked.prog.mainIs = some (true, ("6830bca40fec5c23c228f8ee141203fa5860c5948aa1ea65bc4cf37163438393" : String).toList) := by kernel_rfl
theorem wfText : Rows.judgeKnownRow.wfByText (OpenSpec.ofChange Rows.judgeKnownSpec) = true := by kernel_rfl
theorem noBlocks : Rows.judgeKnownRow.noBlocks = false ∧ Rows.judgeKnownRow.again = false := ⟨rfl, rfl⟩
theorem marked : (!true && ("6830bca40fec5c23c228f8ee141203fa5860c5948aa1ea65bc4cf37163438393" : String).isEmpty && !true) = false := rfl
/-- THE CARD OF JudgeKnown. -/
theorem judgeKnown_card : Rows.JudgeKnownCardSaid :=
  Claim7.holds_tied_plain_at .later [] _ _ _ _ said (fun _ h => by cases h) wfText (fun _ h => by cases h) rowTie rfl noBlocks mainIs marked plain goes
end Go.Proofs.YtfkhilehbikaaaaGreatDoor
