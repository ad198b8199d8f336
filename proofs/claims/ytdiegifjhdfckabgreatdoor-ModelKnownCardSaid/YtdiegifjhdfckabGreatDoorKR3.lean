/-
  PROVED: 'Rows.ModelKnownCardSaid': marqueelaw32.ModelKnown returns true from every world in which the listed library variables hold what the program's text lays into them (the row's condition 'laid'), and leaves memory as it was; by a verified evaluator of the calculus (Go.Ae), run by the kernel. The card ties the pruned copy of the repository only.
-/
import Derived.Test.YtdiegifjhdfckabGreatDoorKR2
namespace Go.Proofs.YtdiegifjhdfckabGreatDoor
open Go.ChangeShapes Go.WideShapes Go.ChangeAt Go.RowKit
set_option maxRecDepth 100000
theorem no_go : Tryz.prog.funcs.any Func.goes = false := by kernel_rfl
theorem goes_none (P : Program) (h : P.funcs.any Func.goes = false) (f : FuncId) : P.goes f = false := by
  have h1 : ∀ (g : FuncId), (P.funcs[g]?).any Func.goes = false := fun g => by
    cases e : P.funcs[g]? with
    | none => rfl
    | some fn =>
      show Func.goes fn = false
      cases hg : Func.goes fn with
      | false => rfl
      | true => rw [Array.any_eq_true'.2 ⟨fn, Array.mem_of_getElem? e, hg⟩] at h; cases h
  unfold Program.goes
  rw [h, Bool.and_false, Bool.or_false, List.any_eq_false]
  intro g _
  rw [h1 g]; decide
theorem goesAt_none (P : Program) (h : P.funcs.any Func.goes = false) (func : String) : false = P.goesAt .entering func := by
  unfold Program.goesAt Program.goesFrom
  rw [Bool.or_false]
  cases P.funcNamed func with
  | none => rfl
  | some f => exact (goes_none P h f).symm
theorem goes3 : false = Rows.modelKnownRow.goesBy Tryz.pinned.checked.prog := goesAt_none Tryz.prog no_go "marquee/marqueelaw32.ModelKnown"
end Go.Proofs.YtdiegifjhdfckabGreatDoor
