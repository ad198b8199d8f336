/-
  PROVED: 'Rows.ModelKnownCardSaid': marqueelaw32.ModelKnown returns true from every world in which the listed library variables hold what the program's text lays into them (the row's condition 'laid'), and leaves memory as it was; by a verified evaluator of the calculus (Go.Ae), run by the kernel. The card ties the pruned copy of the repository only.
-/
import Derived.Test.YtdiegifjhdfckabGreatDoorTie
import Derived.Test.YtdiegifjhdfckabGreatDoorCards
import Derived.ProofKit
import Derived.OpenShut
import Derived.LaidMore
import Derived.Lay
import Derived.SevenTiedAt
import Derived.Stop.Joined
import Derived.Test.YtdiegifjhdfckabGreatDoorKZ
namespace Go.Proofs.YtdiegifjhdfckabGreatDoor
open Go.ChangeShapes Go.WideShapes Go.ChangeAt Go.RowKit
open Go.Ae (CallOk NextOk FOk Rel Ext VsRel VRel)
set_option maxRecDepth 100000

theorem own : ownKnob Tryz.prog.godebug = none := by kernel_rfl

theorem nGlob : Tryz.prog.globals.size = 9 := by kernel_rfl
theorem body3 : Tryz.f3.body.isSome = true := by kernel_rfl
theorem name3 : (Tryz.f3.name == "runtime.NumGoroutine") = false := by kernel_rfl

theorem rel0 (w : World) : Rel Tryz.prog (fun b => if b < 9 then some ⟨b, 0, 0, 0⟩ else none) Kx.h0 w where
  dom := fun b o e => by rw [show Kx.h0.tr = .nil from rfl, Ae.Tr.get_nil] at e; cases e
  inj := fun b b' o o' r r' e => by rw [show Kx.h0.tr = .nil from rfl, Ae.Tr.get_nil] at e; cases e
  fresh := fun b r e => by
    show b < 9
    by_cases h : b < 9
    · exact h
    · simp [h] at e
  dead := fun b o e => by rw [show Kx.h0.tr = .nil from rfl, Ae.Tr.get_nil] at e; cases e
  glob := fun g hg => by rw [nGlob] at hg; simp [hg]
  fl := Nat.le_refl _
  gfl := by rw [nGlob]; exact Nat.le_refl _

theorem law (w : World) : Calls Tryz.prog 3 #[] w fun e w' => e = .returned (.bool true) ∧ (w'.os = w.os ∧ w'.output = w.output ∧ ∀ c, c < w.heap.size → w'.heap[c]? = w.heap[c]?) := by
  have hk := Kx.known
  cases hc : (Ae.eval Kx.Z 1000000).call 3 [] Kx.h0 with
  | none => rw [hc] at hk; cases hk
  | some r =>
    obtain ⟨v, h'⟩ := r
    rw [hc] at hk
    have hv : v = .bool true := by
      cases v with
      | bool b => cases b with
        | true => rfl
        | false => cases hk
      | _ => cases hk
    subst hv
    have := (Kx.zok 1000000).call 3 [] Kx.h0 _ h' hc Fence.wide 1 _ w #[] (fun v w' => v = .bool true ∧ (w'.os = w.os ∧ w'.output = w.output ∧ ∀ c, c < w.heap.size → w'.heap[c]? = w.heap[c]?)) ⟨fun _ => trivial, rfl⟩ (rel0 w) .nil (fun ρ' w' v' k1 k2 k3 => ⟨by cases k3; rfl, k2.os, k2.output, fun c hc => k2.frame c hc fun b o r e => by rw [show Kx.h0.tr = .nil from rfl, Ae.Tr.get_nil] at e; cases e⟩)
    have hrun : (callFunc 3 #[]).run Tryz.prog w = .ok (.enter 3 #[]) w := by
      have hprog : (program : Sem Program).run Tryz.prog w = .ok Tryz.prog w := rfl
      cases hb : Tryz.f3.body with
      | none => have := body3; rw [hb] at this; cases this
      | some c =>
        simp only [callFunc, Sem.run_bind, hprog, Result.andThen_ok, Tryz.func3, name3, hb]
        simp
    rw [hrun] at this
    refine (callsIn_wide.1 this).mono fun e w' ⟨v, he, hk⟩ => ?_
    obtain ⟨rfl, hk⟩ := hk
    exact ⟨he, hk⟩
end Go.Proofs.YtdiegifjhdfckabGreatDoor
