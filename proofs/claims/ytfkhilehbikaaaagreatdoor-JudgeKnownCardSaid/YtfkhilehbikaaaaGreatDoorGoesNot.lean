/-
  No text of the translation starts a goroutine: the cell goes of the card. No condition.
-/
import Derived.Test.YtfkhilehbikaaaaGreatDoorCards
import Derived.KernelRfl
namespace Go.Proofs.YtfkhilehbikaaaaGreatDoor
theorem noGo : Tryz.prog.funcs.toList.all (fun fn => !fn.goes) = true := by kernel_rfl
theorem noGoAny : Tryz.prog.funcs.any Func.goes = false := by
  rw [Bool.eq_false_iff]
  intro h
  obtain ⟨i, hi, e⟩ := Array.any_eq_true.mp h
  have hm := List.all_eq_true.mp noGo (Tryz.prog.funcs[i]) (by simp)
  simp [e] at hm
theorem noGoes (f : FuncId) : Tryz.prog.goes f = false := by
  unfold Program.goes
  rw [noGoAny, Bool.and_false, Bool.or_false, Bool.eq_false_iff]
  intro h
  obtain ⟨g, _, e⟩ := List.any_eq_true.mp h
  obtain ⟨fn, hf, e'⟩ : ∃ fn, Tryz.prog.funcs[g]? = some fn ∧ fn.goes = true := by
    cases hq : Tryz.prog.funcs[g]? with
    | none => rw [hq] at e; simp at e
    | some fn => rw [hq] at e; exact ⟨fn, rfl, by simpa using e⟩
  obtain ⟨hlt, hget⟩ := Array.getElem?_eq_some_iff.mp hf
  have : Tryz.prog.funcs.any Func.goes = true := Array.any_eq_true.mpr ⟨g, hlt, by rw [hget]; exact e'⟩
  rw [noGoAny] at this; cases this
theorem any_none {α : Type} {p : α → Bool} (h : ∀ a, p a = false) (o : Option α) : o.any p = false := by
  cases o with
  | none => rfl
  | some a => exact h a
theorem all_none {α : Type} {p : α → Bool} (h : ∀ a, p a = false) (l : List α) : l.any p = false := by
  rw [Bool.eq_false_iff]; intro e
  obtain ⟨a, _, e⟩ := List.any_eq_true.mp e
  rw [h] at e; cases e
theorem goesAt_none {P : Program} (h : ∀ f, P.goes f = false) (s : Start) (n : String) : P.goesAt s n = false := by
  unfold Program.goesAt Program.goesFrom
  rw [any_none h, Bool.false_or]
  split
  · rfl
  · exact all_none h _
theorem goes : false = Rows.judgeKnownRow.goesBy Tryz.pinned.checked.prog := (goesAt_none noGoes _ _).symm
end Go.Proofs.YtfkhilehbikaaaaGreatDoor
