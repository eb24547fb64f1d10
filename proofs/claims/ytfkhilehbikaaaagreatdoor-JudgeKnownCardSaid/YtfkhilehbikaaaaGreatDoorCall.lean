/-
  The call of JudgeKnown returns true in every world of the asked shape and leaves what was there: the contract. No condition.
-/
import Derived.Test.YtfkhilehbikaaaaGreatDoorCards
import Derived.Test.YtfkhilehbikaaaaGreatDoorRun
import Derived.WalkKit
import Derived.ProofKit
import Derived.OpenShut
import Derived.Deep.DeepHandedRow
import Derived.Lib.LaidTab
namespace Go.Proofs.YtfkhilehbikaaaaGreatDoor
open Go.ChangeShapes Go.WideShapes Go.ChangeAt Go.RowKit

theorem own : ownKnob Tryz.prog.godebug = none := by kernel_rfl
theorem sizeB : decide (9 = Tryz.prog.globals.size) = true := by kernel_rfl
theorem mixed : Tryz.prog.follows .mixedOrders = true := by kernel_rfl
theorem lastRow : (((begin Tryz.prog (fun _ _ => 0) default).world.heap[8]?).bind Obj.row?).isSome = true := by kernel_rfl
theorem named : Tryz.prog.funcNamed "partywall/partywalllaw42.JudgeKnown" = some 3 := by kernel_rfl
theorem noParams : Tryz.f3.params.toList = [] := by kernel_rfl
theorem oneResult : Tryz.f3.resultTypes = #[4] := by kernel_rfl

/-- every world of the shape that is asked holds the package's variables -/
theorem size_of_shaped {W : World} (h : W.ShapedOpen Tryz.prog) : Tryz.prog.globals.size ≤ W.heap.size := by
  have e := of_decide_eq_true sizeB
  obtain ⟨⟨zero, t⟩, hr⟩ := Option.isSome_iff_exists.mp lastRow
  obtain ⟨cs, hc, _⟩ := h.1 8 zero t (by omega) hr
  obtain ⟨hlt, _⟩ := Array.getElem?_eq_some_iff.mp hc
  omega

/-- THE CALL: it returns true, whatever the world; what was there before stays. -/
theorem call (W : World) (h : W.ShapedOpen Tryz.prog) :
    Calls Tryz.prog 3 #[] W fun e w' => e = .returned (.bool true) ∧ Below W.heap.size W w' :=
  Go.Ev.calls_of_checks mixed (by have := of_decide_eq_true sizeB; omega) run_true W (size_of_shaped h)

theorem contract (H : Type) (enc : TypeId × Value → H) (W : World) (args : Array Value) (ds gs : List (DataW H)) (before : List MemPlace)
    (hW : DataW.Whole enc Tryz.prog Tryz.f3.params.toList Rows.judgeKnownSpec.vars false W args.toList ds gs before) (hs : W.ShapedOpen Tryz.prog) :
    Calls Tryz.prog 3 args W fun e W' => ∃ v, e = .returned v ∧ Rows.judgeKnownSpec.post enc Tryz.prog Tryz.f3 false true false false W args v W' := by
  have hW' := hW
  obtain ⟨p, q, hA0, hV, rfl, hfz, hnd⟩ := hW
  rw [noParams] at hA0
  obtain ⟨hargs, rfl, rfl⟩ := trodAll_nil hA0
  obtain ⟨rfl, rfl⟩ := trodVars_none hV
  obtain rfl : args = #[] := by cases args; simp_all
  refine (call W hs).mono fun e W' ⟨he, hg⟩ => ?_
  subst he
  refine ⟨_, rfl, [], [], [], [], [], [], hW', ?_, ?_, rfl, hg.frame _, fun h => by cases h⟩
  · rw [oneResult]
    exact trodAll_mk1 (shut_bool Tryz.underlying4 _)
  · rw [noParams]
    exact rfl
end Go.Proofs.YtfkhilehbikaaaaGreatDoor
