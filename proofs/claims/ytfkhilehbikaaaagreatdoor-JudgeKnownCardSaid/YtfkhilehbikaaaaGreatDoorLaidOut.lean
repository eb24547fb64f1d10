/-
  The types of the translation are laid out well. No condition.
-/
import Derived.Test.YtfkhilehbikaaaaGreatDoorProg
import Derived.JoinedCond
import Derived.KernelRfl
namespace Go.Proofs.YtfkhilehbikaaaaGreatDoor
open Go
set_option maxRecDepth 100000
theorem row0 : (List.range' 0 64).all (rowFine Tryz.prog) = true := by kernel_rfl
theorem row64 : (List.range' 64 64).all (rowFine Tryz.prog) = true := by kernel_rfl
theorem row128 : (List.range' 128 64).all (rowFine Tryz.prog) = true := by kernel_rfl
theorem row192 : (List.range' 192 64).all (rowFine Tryz.prog) = true := by kernel_rfl
theorem row256 : (List.range' 256 64).all (rowFine Tryz.prog) = true := by kernel_rfl
theorem row320 : (List.range' 320 64).all (rowFine Tryz.prog) = true := by kernel_rfl
theorem row384 : (List.range' 384 64).all (rowFine Tryz.prog) = true := by kernel_rfl
theorem row448 : (List.range' 448 64).all (rowFine Tryz.prog) = true := by kernel_rfl
theorem row512 : (List.range' 512 64).all (rowFine Tryz.prog) = true := by kernel_rfl
theorem row576 : (List.range' 576 64).all (rowFine Tryz.prog) = true := by kernel_rfl
theorem row640 : (List.range' 640 64).all (rowFine Tryz.prog) = true := by kernel_rfl
theorem row704 : (List.range' 704 64).all (rowFine Tryz.prog) = true := by kernel_rfl
theorem row768 : (List.range' 768 1).all (rowFine Tryz.prog) = true := by kernel_rfl
theorem lo2 : Tryz.prog.globals.all (fun g => decide (g.type < Tryz.prog.types.size)) = true := by kernel_rfl
theorem lo3 : Tryz.prog.funcs.all (fun f => f.params.all fun t => decide (t < Tryz.prog.types.size)) = true := by kernel_rfl
theorem lon : Tryz.prog.types.size = 769 := by kernel_rfl
theorem in_chunk {p : Nat → Bool} {a n k : Nat} (h : (List.range' a n).all p = true) (h1 : a ≤ k) (h2 : k < a + n) : p k = true :=
  List.all_eq_true.mp h k (List.mem_range'_1.mpr ⟨h1, h2⟩)
theorem lo1 : (List.range Tryz.prog.types.size).all (rowFine Tryz.prog) = true := by
  rw [lon]
  refine List.all_eq_true.mpr fun k hk => ?_
  have hk := List.mem_range.mp hk
  by_cases h0 : k < 64
  · exact in_chunk row0 (by omega) (by omega)
  by_cases h64 : k < 128
  · exact in_chunk row64 (by omega) (by omega)
  by_cases h128 : k < 192
  · exact in_chunk row128 (by omega) (by omega)
  by_cases h192 : k < 256
  · exact in_chunk row192 (by omega) (by omega)
  by_cases h256 : k < 320
  · exact in_chunk row256 (by omega) (by omega)
  by_cases h320 : k < 384
  · exact in_chunk row320 (by omega) (by omega)
  by_cases h384 : k < 448
  · exact in_chunk row384 (by omega) (by omega)
  by_cases h448 : k < 512
  · exact in_chunk row448 (by omega) (by omega)
  by_cases h512 : k < 576
  · exact in_chunk row512 (by omega) (by omega)
  by_cases h576 : k < 640
  · exact in_chunk row576 (by omega) (by omega)
  by_cases h640 : k < 704
  · exact in_chunk row640 (by omega) (by omega)
  by_cases h704 : k < 768
  · exact in_chunk row704 (by omega) (by omega)
  by_cases h768 : k < 769
  · exact in_chunk row768 (by omega) (by omega)
  omega
theorem fact1 : laidOutB Tryz.prog = true := by
  unfold laidOutB
  rw [lo1, lo2, lo3]; rfl
end Go.Proofs.YtfkhilehbikaaaaGreatDoor
