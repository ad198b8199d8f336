/-
  PROVED: 'Rows.ModelKnownCardSaid': marqueelaw32.ModelKnown returns true from every world in which the listed library variables hold what the program's text lays into them (the row's condition 'laid'), and leaves memory as it was; by a verified evaluator of the calculus (Go.Ae), run by the kernel. The card ties the pruned copy of the repository only.
-/
import Derived.Test.YtdiegifjhdfckabGreatDoorKR4
namespace Go.Proofs.YtdiegifjhdfckabGreatDoor
set_option maxRecDepth 100000
theorem jf5 : joinedRest Tryz.prog Tryz.f3 Rows.modelKnownSpec Rows.modelKnownRow = true := by kernel_rfl
end Go.Proofs.YtdiegifjhdfckabGreatDoor
