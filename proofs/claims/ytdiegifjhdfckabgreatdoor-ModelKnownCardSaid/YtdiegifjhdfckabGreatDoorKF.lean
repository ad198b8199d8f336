/-
  PROVED: 'Rows.ModelKnownCardSaid': marqueelaw32.ModelKnown returns true from every world in which the listed library variables hold what the program's text lays into them (the row's condition 'laid'), and leaves memory as it was; by a verified evaluator of the calculus (Go.Ae), run by the kernel. The card ties the pruned copy of the repository only.
-/
import Derived.Test.YtdiegifjhdfckabGreatDoorKX
open Go Go.Ae Go.Proofs
namespace Go.Kx
set_option maxRecDepth 1000000
noncomputable def fnOkB (fn : Func) : Bool := match fn.body with
  | some c => okCode 9 fn.ntmps c && !(fn.name == "runtime.NumGoroutine")
  | none => true
theorem gsz : Tryz.prog.globals.size = 9 := by kernel_rfl
theorem allOk : Tryz.prog.funcs.toList.all fnOkB = true := by kernel_rfl
theorem codeOk (f : FuncId) (fn : Func) (c : Code) (hf : Tryz.prog.funcs[f]? = some fn) (hc : fn.body = some c) : okCode Tryz.prog.globals.size fn.ntmps c = true ∧ (fn.name == "runtime.NumGoroutine") = false := by
  have hm : fn ∈ Tryz.prog.funcs.toList := by rw [← Array.getElem?_toList] at hf; exact List.mem_of_getElem? hf
  have := List.all_eq_true.1 allOk fn hm
  unfold fnOkB at this
  rw [hc, Bool.and_eq_true] at this
  rw [gsz]
  exact ⟨this.1, by simpa using this.2⟩
theorem f34 : Tryz.prog.funcs[34]? = some fn34 := by kernel_rfl
noncomputable def fnAt (k : Nat) : Func := Tryz.prog.funcs.getD k default
theorem f139 : Tryz.prog.funcs[139]? = some (fnAt 139) := by kernel_rfl
theorem f429 : Tryz.prog.funcs[429]? = some (fnAt 429) := by kernel_rfl
theorem f398 : Tryz.prog.funcs[398]? = some (fnAt 398) := by kernel_rfl
theorem summX_ok (f : FuncId) (g : Rec → List Value → Ae.H → Option (Value × Ae.H)) (hg : summX f = some g) (R : Rec) (rok : RecOk Tryz.prog R) (vs : List Value) (h : Ae.H) (v : Value) (h' : Ae.H) (hs : g R vs h = some (v, h')) : CallOk Tryz.prog f vs h v h' := by
  unfold summX at hg
  cases e1 : Nat.beq f 34 with
  | true =>
    rw [e1] at hg
    have := Nat.eq_of_beq_eq_true e1
    subst this
    cases hg
    exact cells_ok cx cc f34 rok hs
  | false =>
    rw [e1] at hg
    cases e2 : Nat.beq f 139 with
    | true =>
      rw [e2] at hg
      have := Nat.eq_of_beq_eq_true e2
      subst this
      cases hg
      exact sNoEscape_ok f139 (by kernel_rfl) (by kernel_rfl) (by kernel_rfl) (by kernel_rfl) hs
    | false =>
      rw [e2] at hg
      cases e3 : Nat.beq f 429 with
      | true =>
        rw [e3] at hg
        have := Nat.eq_of_beq_eq_true e3
        subst this
        cases hg
        exact sIndexByte_ok f429 (by kernel_rfl) (by kernel_rfl) (by kernel_rfl) (by kernel_rfl) hs
      | false =>
        rw [e3] at hg
        cases e4 : Nat.beq f 398 with
        | true =>
          rw [e4] at hg
          have := Nat.eq_of_beq_eq_true e4
          subst this
          cases hg
          exact sCount_ok f398 (by kernel_rfl) (by kernel_rfl) (by kernel_rfl) (by kernel_rfl) hs
        | false => rw [e4] at hg; cases hg
theorem fx : FnsOk Tryz.prog X := ⟨codeOk, summX_ok, fun _ rok => draw_ok cx rok⟩
theorem xok (n : Nat) : RecOk Tryz.prog (eval X n) := eval_ok cx fx n
end Go.Kx
