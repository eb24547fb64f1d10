/-
  A world that holds each listed variable as the text lays it: the input that fits. No condition.
-/
import Derived.Test.YtfkhilehbikaaaaGreatDoorCards
import Derived.ProofKit
import Derived.OpenShut
import Derived.Deep.DeepHandedRow
import Derived.KernelRfl
import Derived.LaidLaws
import Derived.Lib.LaidTab
namespace Go.Proofs.YtfkhilehbikaaaaGreatDoor
open Go Go.ChangeShapes Go.WideShapes Go.ChangeAt Go.RowKit
/-- the cells that a plain datum lays -/
def lit1 : DataW Unit → Value
  | .lit (.int k n) => .int k n
  | .lit (.string l) => .string ⟨l.toArray⟩
  | _ => .bool false
def row1 : DataW Unit → List Value
  | .agg l => l.map lit1
  | _ => []
def row2 : DataW Unit → List Value
  | .agg l => l.flatMap row1
  | _ => []
def setRow (h : Array Obj) (i : Nat) (l : List Value) : Array Obj := h.modify i fun
  | .cells _ t frozen => .cells l.toArray t frozen
  | o => o
noncomputable def low : Nat := (World.holding Tryz.prog default ⟨#[], #[], []⟩).heap.size
def textCell : DataW Unit → Value
  | .iface _ (.ptr (.agg [d])) => lit1 d
  | _ => .bool false
/-- A WORLD FOR THE WITNESS: each listed variable as the program's text lays it. -/
noncomputable def laidWorld (os : Os) : World :=
  let w0 := World.holding Tryz.prog os ⟨#[.cells #[textCell Rows.laid_strconv_ErrSyntax] 748, .cells #[textCell Rows.laid_strconv_ErrRange] 748], #[], []⟩
  let h0 := setRow w0.heap 0 (row1 Rows.laid_internal_strconv_uint64pow10)
  let h2 := setRow h0 2 (row1 Rows.laid_unicode_utf8_first)
  let h3 := setRow h2 3 (row2 Rows.laid_unicode_utf8_acceptRanges)
  let h4 := setRow h3 4 (row1 Rows.laid_math_bits_deBruijn32tab)
  let h5 := setRow h4 5 (row1 Rows.laid_math_bits_deBruijn64tab)
  let h6 := setRow h5 6 (row1 Rows.laid_partywall_ast_names)
  let h7 := setRow h6 7 [.iface 746 (.pointer (some ⟨low, 0, none⟩))]
  let h8 := setRow h7 8 [.iface 746 (.pointer (some ⟨low + 1, 0, none⟩))]
  { w0 with heap := h8 }
set_option maxRecDepth 100000
theorem laid_met (os : Os) : laidMet Tryz.prog Rows.judgeKnownRow.laid ((laidWorld os).forCall (fun _ _ => 0) ⟨#[], #[], []⟩).memory :=
  laidMet_of_run' 8 (by kernel_rfl) (by kernel_rfl)
theorem reads (os : Os) {H : Type} (enc : TypeId × Value → H) : ∃ places, DataW.whole enc Tryz.prog ((laidWorld os).forCall (fun _ _ => 0) ⟨#[], #[], []⟩).memory Tryz.f3.params.toList Rows.judgeKnownSpec.vars false (#[] : Array Value).toList 8 = some ([], [], places) :=
  ⟨[], by kernel_rfl⟩
theorem wv (os : Os) : ((laidWorld os).forCall (fun _ _ => 0) ⟨#[], #[], []⟩).variablesB Tryz.prog = true := by kernel_rfl
theorem wr (os : Os) : (((laidWorld os).forCall (fun _ _ => 0) ⟨#[], #[], []⟩).heap.toList.drop Tryz.prog.globals.size).take ((begin Tryz.prog (fun _ _ => 0) default).world.heap.size - Tryz.prog.globals.size) =
      (begin Tryz.prog (fun _ _ => 0) default).world.heap.toList.drop Tryz.prog.globals.size := by kernel_rfl
theorem wok (os : Os) : Input.okWideB Tryz.prog ((laidWorld os).forCall (fun _ _ => 0) ⟨#[], #[], []⟩) 3 ⟨#[], #[], []⟩ = true := by kernel_rfl
end Go.Proofs.YtfkhilehbikaaaaGreatDoor
