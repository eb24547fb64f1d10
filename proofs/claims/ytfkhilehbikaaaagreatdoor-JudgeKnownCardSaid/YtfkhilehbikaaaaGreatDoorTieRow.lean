/-
  The tie of the row: what it lists is what the text lays. No condition.
-/
import Derived.Test.YtfkhilehbikaaaaGreatDoorTieWords
import Derived.Test.YtfkhilehbikaaaaGreatDoorTieKinds
import Derived.Test.YtfkhilehbikaaaaGreatDoorTieVars
import Derived.Test.YtfkhilehbikaaaaGreatDoorTieRun
namespace Go.Proofs.YtfkhilehbikaaaaGreatDoor
open Go
set_option maxRecDepth 100000
theorem seatTie : Tryz.prog.laidByTextLater tieLaid tieKinds true :=
  Program.laidByTextLater_by_one 77 8 65 ta ta2 ta3 tk tg tn tr
theorem pinFirst : Tryz.pinned.checked.prog.pinnedFits "unicode/utf8.first" = true := by kernel_rfl
theorem noOwn : Tryz.pinned.checked.prog.headLifts.contains "ownunsafe" = false := by kernel_rfl
theorem fits : Tryz.pinned.checked.prog.listedFits Rows.judgeKnownRow.laid = true := by
  unfold Program.listedFits
  rw [noOwn]
  kernel_rfl
theorem rowTie : Rows.judgeKnownRow.laidByTextAt .later Tryz.pinned [.data, .data, .data, .data, .sentinel, .sentinel, .widerDeep, .pinned] true :=
  OpenClaim.laidByTextAt_pinned rfl rfl seatTie rfl rfl rfl rfl (fun y hy _e => by
    simp only [Rows.judgeKnownRow, List.zip_cons_cons, List.zip_nil_right, List.mem_cons, List.mem_nil_iff, or_false] at hy
    rcases hy with rfl | rfl | rfl | rfl | rfl | rfl | rfl | rfl
    · cases _e
    · cases _e
    · cases _e
    · cases _e
    · cases _e
    · cases _e
    · cases _e
    · exact ⟨pinFirst, by kernel_rfl⟩) fits
end Go.Proofs.YtfkhilehbikaaaaGreatDoor
