/-
  PROVED: 'Rows.ModelKnownCardSaid': marqueelaw32.ModelKnown returns true from every world in which the listed library variables hold what the program's text lays into them (the row's condition 'laid'), and leaves memory as it was; by a verified evaluator of the calculus (Go.Ae), run by the kernel. The card ties the pruned copy of the repository only.
-/
import Derived.Test.YtdiegifjhdfckabGreatDoorKR5
import Derived.Test.YtdiegifjhdfckabGreatDoorKR6
import Derived.Test.YtdiegifjhdfckabGreatDoorKR7
import Derived.Test.YtdiegifjhdfckabGreatDoorKR8
import Derived.Test.YtdiegifjhdfckabGreatDoorKR9
namespace Go.Proofs.YtdiegifjhdfckabGreatDoor
open Go.ChangeShapes Go.WideShapes Go.ChangeAt Go.RowKit
set_option maxRecDepth 100000
theorem joined : joinedFacts Tryz.pinned.checked.prog 3 Tryz.f3 Rows.modelKnownSpec Rows.modelKnownRow = true := joined_of (P := Tryz.prog) jf1 jf2 jf3 jf4 jf6 jf5
theorem holds : Rows.ModelKnownSaid :=
  OpenClaim.holds_of_wide 3 Tryz.f3 rfl rfl rfl rfl rfl rfl rfl ⟨rfl, rfl, rfl, rfl, rfl⟩ rfl rfl rfl rfl rfl (by kernel_rfl) Tryz.func3 joined
    (of_decide_eq_true (by kernel_rfl)) (by unfold Func.isWrapper; first | (rw [if_pos (by decide +kernel)]; kernel_rfl) | (rw [if_neg (by decide +kernel)]; exact ⟨rfl, rfl⟩))
    (fun os started H enc _ => lifted os started H enc)
theorem card_holds : Rows.ModelKnownCardSaid :=
  Claim7.holds_tied_plain_at .later [] [.data, .data, .data, .data, .sentinel, .sentinel, .pinned, .pinned] true (true, "df64ca29aeaa4e03b655e39fc38d251b493f43bed1570f1d05c99bccb775a3f6") true holds (fun _ h => by cases h) (by kernel_rfl) (fun _ h => by cases h) modelKnown_row_tie rfl ⟨rfl, rfl⟩ (by kernel_rfl) rfl
    (fun f fn hf hfn => by
      obtain rfl : f = 3 := Option.some.inj ((show Tryz.prog.funcNamed "marquee/marqueelaw32.ModelKnown" = some 3 by kernel_rfl).symm.trans hf) |>.symm
      obtain rfl : fn = Tryz.f3 := (Option.some.inj (Tryz.func3.symm.trans hfn)).symm
      exact ⟨by kernel_rfl, fun j t ht => by rw [Tryz.params3] at ht; simp at ht⟩)
    goes3
#print axioms card_holds
end Go.Proofs.YtdiegifjhdfckabGreatDoor
