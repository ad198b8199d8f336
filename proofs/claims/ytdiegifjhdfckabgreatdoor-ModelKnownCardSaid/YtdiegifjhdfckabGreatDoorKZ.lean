/-
  PROVED: 'Rows.ModelKnownCardSaid': marqueelaw32.ModelKnown returns true from every world in which the listed library variables hold what the program's text lays into them (the row's condition 'laid'), and leaves memory as it was; by a verified evaluator of the calculus (Go.Ae), run by the kernel. The card ties the pruned copy of the repository only.
-/
import Derived.Test.YtdiegifjhdfckabGreatDoorKO
import Derived.Test.YtdiegifjhdfckabGreatDoorKC0
import Derived.Test.YtdiegifjhdfckabGreatDoorKC1
import Derived.Test.YtdiegifjhdfckabGreatDoorKC2
import Derived.Test.YtdiegifjhdfckabGreatDoorKC3
import Derived.Test.YtdiegifjhdfckabGreatDoorKC4
import Derived.Test.YtdiegifjhdfckabGreatDoorKC5
import Derived.Test.YtdiegifjhdfckabGreatDoorKC6
import Derived.Test.YtdiegifjhdfckabGreatDoorKC7
import Derived.Test.YtdiegifjhdfckabGreatDoorKC8
import Derived.Test.YtdiegifjhdfckabGreatDoorKC9
open Go Go.Ae Go.Proofs
namespace Go.Kx
set_option maxRecDepth 1000000
noncomputable def tab : List Entry := [e0, e1, e2, e3, e4, e5, e6, e7, e8, e9, e10, e11, e12, e13, e14, e15, e16, e17, e18, e19, e20, e21, e22, e23, e24, e25, e26, e27, e28, e29, e30, e31, e32, e33, e34, e35, e36]
theorem tabAll : ∀ e ∈ tab, chkEntry (eval Y 1000000) 6 9 e = true := by
  intro e he
  simp only [tab, List.mem_cons, List.mem_nil_iff, or_false] at he
  rcases he with rfl | rfl | rfl | rfl | rfl | rfl | rfl | rfl | rfl | rfl | rfl | rfl | rfl | rfl | rfl | rfl | rfl | rfl | rfl | rfl | rfl | rfl | rfl | rfl | rfl | rfl | rfl | rfl | rfl | rfl | rfl | rfl | rfl | rfl | rfl | rfl | rfl
  · exact k0
  · exact k1
  · exact k2
  · exact k3
  · exact k4
  · exact k5
  · exact k6
  · exact k7
  · exact k8
  · exact k9
  · exact k10
  · exact k11
  · exact k12
  · exact k13
  · exact k14
  · exact k15
  · exact k16
  · exact k17
  · exact k18
  · exact k19
  · exact k20
  · exact k21
  · exact k22
  · exact k23
  · exact k24
  · exact k25
  · exact k26
  · exact k27
  · exact k28
  · exact k29
  · exact k30
  · exact k31
  · exact k32
  · exact k33
  · exact k34
  · exact k35
  · exact k36
noncomputable def summZ (f : FuncId) : Option (Rec → List Value → Ae.H → Option (Value × Ae.H)) := cond (Nat.beq f 6) (some (sTab tab 9)) (summY f)
noncomputable def Z : Ctx := ⟨Tryz.prog, tiOf Tryz.prog, Tryz.prog.stoodInHeld, summZ⟩
theorem cxZ : CtxOk Tryz.prog Z := ⟨rfl, tiOf_ok _, rfl, cx.depth⟩
theorem fxZ : FnsOk Tryz.prog Z := layer (fun _ => rfl) fxY fun _ _ _ _ _ _ hs => sTab_ok (yok _) tabAll hs
theorem zok (n : Nat) : RecOk Tryz.prog (eval Z n) := eval_ok cxZ fxZ n
theorem known : isT ((eval Z 1000000).call 3 [] h0) = true := by kernel_rfl
end Go.Kx
