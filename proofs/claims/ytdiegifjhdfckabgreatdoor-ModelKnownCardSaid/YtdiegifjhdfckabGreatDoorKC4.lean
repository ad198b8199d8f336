/-
  PROVED: 'Rows.ModelKnownCardSaid': marqueelaw32.ModelKnown returns true from every world in which the listed library variables hold what the program's text lays into them (the row's condition 'laid'), and leaves memory as it was; by a verified evaluator of the calculus (Go.Ae), run by the kernel. The card ties the pruned copy of the repository only.
-/
import Derived.Test.YtdiegifjhdfckabGreatDoorKO
open Go Go.Ae Go.Proofs
namespace Go.Kx
set_option maxRecDepth 1000000
theorem k16 : chkEntry (eval Y 1000000) 6 9 e16 = true := by kernel_rfl
theorem k17 : chkEntry (eval Y 1000000) 6 9 e17 = true := by kernel_rfl
theorem k18 : chkEntry (eval Y 1000000) 6 9 e18 = true := by kernel_rfl
theorem k19 : chkEntry (eval Y 1000000) 6 9 e19 = true := by kernel_rfl
end Go.Kx
