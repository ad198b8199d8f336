/-
  PROVED: 'Rows.ModelKnownCardSaid': marqueelaw32.ModelKnown returns true from every world in which the listed library variables hold what the program's text lays into them (the row's condition 'laid'), and leaves memory as it was; by a verified evaluator of the calculus (Go.Ae), run by the kernel. The card ties the pruned copy of the repository only.
-/
import Derived.Test.YtdiegifjhdfckabGreatDoorKD
open Go Go.Ae Go.Proofs
namespace Go.Kx
set_option maxRecDepth 1000000
theorem layer {sm sm' : FuncId → Option (Rec → List Value → Ae.H → Option (Value × Ae.H))} {k : FuncId} {g0 : Rec → List Value → Ae.H → Option (Value × Ae.H)} (h1 : ∀ f, sm' f = cond (Nat.beq f k) (some g0) (sm f)) (fx : FnsOk Tryz.prog ⟨Tryz.prog, tiOf Tryz.prog, Tryz.prog.stoodInHeld, sm⟩)
    (hg : ∀ R, RecOk Tryz.prog R → ∀ vs h v h', g0 R vs h = some (v, h') → CallOk Tryz.prog k vs h v h') : FnsOk Tryz.prog ⟨Tryz.prog, tiOf Tryz.prog, Tryz.prog.stoodInHeld, sm'⟩ := by
  refine ⟨codeOk, fun f g hf R rok vs h v h' hs => ?_, fun _ rok => draw_ok ⟨rfl, tiOf_ok _, rfl, cx.depth⟩ rok⟩
  have hf : sm' f = some g := hf
  rw [h1] at hf
  cases e : Nat.beq f k with
  | true =>
    rw [e] at hf
    have := Nat.eq_of_beq_eq_true e
    subst this
    cases hf
    exact hg R rok vs h v h' hs
  | false =>
    rw [e] at hf
    exact fx.summ f g hf R rok vs h v h' hs
noncomputable def summD (f : FuncId) : Option (Rec → List Value → Ae.H → Option (Value × Ae.H)) := cond (Nat.beq f 117) (some (sNums palV 256)) (summX f)
noncomputable def D : Ctx := ⟨Tryz.prog, tiOf Tryz.prog, Tryz.prog.stoodInHeld, summD⟩
theorem fxD : FnsOk Tryz.prog D := layer (fun _ => rfl) fx fun _ _ _ _ _ _ hs => sNums_ok (xok _) defAll hs
theorem cxD : CtxOk Tryz.prog D := ⟨rfl, tiOf_ok _, rfl, cx.depth⟩
theorem dok (n : Nat) : RecOk Tryz.prog (eval D n) := eval_ok cxD fxD n
noncomputable def palCells : List Value := List.flatten (palL.map fun p => [u16 p.1, u16 p.2.1, u16 p.2.2])
theorem rowFirst : rowB (eval D 1000000) 71 256 capX palCells 113 765 3 = true := by kernel_rfl
noncomputable def summY (f : FuncId) : Option (Rec → List Value → Ae.H → Option (Value × Ae.H)) := cond (Nat.beq f 71) (some (sRow 256 capX palCells 113 765 3)) (summD f)
noncomputable def Y : Ctx := ⟨Tryz.prog, tiOf Tryz.prog, Tryz.prog.stoodInHeld, summY⟩
theorem fxY : FnsOk Tryz.prog Y := layer (fun _ => rfl) fxD fun _ _ _ _ _ _ hs => sRow_ok (dok _) rowFirst hs
theorem cxY : CtxOk Tryz.prog Y := ⟨rfl, tiOf_ok _, rfl, cx.depth⟩
theorem yok (n : Nat) : RecOk Tryz.prog (eval Y n) := eval_ok cxY fxY n
end Go.Kx
