/-
  PROVED: 'Rows.ModelKnownCardSaid': marqueelaw32.ModelKnown returns true from every world in which the listed library variables hold what the program's text lays into them (the row's condition 'laid'), and leaves memory as it was; by a verified evaluator of the calculus (Go.Ae), run by the kernel. The card ties the pruned copy of the repository only.
-/
import Derived.Test.YtdiegifjhdfckabGreatDoorKO
open Go Go.Ae Go.Proofs
namespace Go.Kx
set_option maxRecDepth 1000000
theorem k8 : chkEntry (eval Y 1000000) 6 9 e8 = true := by kernel_rfl
theorem k9 : chkEntry (eval Y 1000000) 6 9 e9 = true := by kernel_rfl
theorem k10 : chkEntry (eval Y 1000000) 6 9 e10 = true := by kernel_rfl
theorem k11 : chkEntry (eval Y 1000000) 6 9 e11 = true := by kernel_rfl
end Go.Kx
