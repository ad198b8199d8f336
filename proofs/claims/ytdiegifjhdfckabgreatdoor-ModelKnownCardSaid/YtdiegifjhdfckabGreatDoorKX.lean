/-
  PROVED: 'Rows.ModelKnownCardSaid': marqueelaw32.ModelKnown returns true from every world in which the listed library variables hold what the program's text lays into them (the row's condition 'laid'), and leaves memory as it was; by a verified evaluator of the calculus (Go.Ae), run by the kernel. The card ties the pruned copy of the repository only.
-/
import Derived.Test.YtdiegifjhdfckabGreatDoorAe6
import Derived.Test.YtdiegifjhdfckabGreatDoorChecked
import Derived.KernelRfl
open Go Go.Ae Go.Proofs
namespace Go.Kx
set_option maxRecDepth 1000000
noncomputable def cPos : Cmp := .struct (.cons 0 1 false .int (.cons 1 1 false .int .nil))
noncomputable def summX (f : FuncId) : Option (Rec → List Value → Ae.H → Option (Value × Ae.H)) :=
  cond (Nat.beq f 34) (some (cellsSumm cPos 2 14)) (cond (Nat.beq f 139) (some sNoEscape) (cond (Nat.beq f 429) (some sIndexByte) (cond (Nat.beq f 398) (some sCount) none)))
noncomputable def X : Ctx := ⟨Tryz.prog, tiOf Tryz.prog, Tryz.prog.stoodInHeld, summX⟩
noncomputable def isS (r : Option (Value × Ae.H)) : Bool := match r with | some (_, h) => Nat.ble 0 h.next | _ => false
noncomputable def isT (r : Option (Value × Ae.H)) : Bool := match r with | some (.bool b, _) => b | _ => false
noncomputable def h0 : Ae.H := { tr := .nil, next := 9, floor := 9 }

theorem cx : CtxOk Tryz.prog X := ⟨rfl, tiOf_ok _, rfl, Nat.le_of_ble_eq_true (by kernel_rfl)⟩

/-- regions, in the text's order -/
def regs : Code → List (Nat × Array Oper)
  | .region id ops _ => [(id, ops)]
  | .seq a b => regs a ++ regs b
  | .cond _ a b => regs a ++ regs b
  | .block _ b => regs b
  | .loop b => regs b
  | .scope b => regs b
  | .rangeFunc _ _ a b => regs a ++ regs b
  | _ => []
noncomputable def fn34 : Func := Tryz.prog.funcs.getD 34 default
noncomputable def body34 : Code := fn34.body.getD .skip
noncomputable def rg (k : Nat) : Array Oper := ((regs body34)[k]?.getD (0, #[])).2
noncomputable def ro (k i : Nat) : Oper := (rg k).getD i default
def isNoneG (o : Oper) : Bool := match o.guard with | none => true | _ => false
theorem isNoneG_eq {o : Oper} (h : isNoneG o = true) : o.guard = none := by
  unfold isNoneG at h; split at h
  · assumption
  · cases h
noncomputable def zeros (t : TypeId) : List Value := match tiOf Tryz.prog t with | some i => (match i.zero with | some z => z.cells.toList | none => []) | none => []

noncomputable def cc : CellsCode Tryz.prog X cPos 2 14 fn34 where
  i0 := 0
  i1 := 1
  i2 := 2
  i3 := 3
  i4 := 4
  i5 := 5
  i6 := 6
  b0 := 0
  b1 := 1
  r0 := rg 0
  r1 := rg 1
  r2 := rg 2
  r3 := rg 3
  r4 := rg 4
  r5 := rg 5
  r6 := rg 6
  o2 := ro 2 2
  o3 := ro 3 0
  o4 := ro 4 0
  o5 := ro 5 3
  tp := 85
  tM := 83
  tk := 40
  te := 60
  kt := 40
  et := 60
  ti := (tiOf Tryz.prog 85).getD ⟨.bool, 0, 0, none⟩
  zK := zeros 40
  zE := zeros 60
  body := by kernel_rfl
  name := by kernel_rfl
  ntmps := by kernel_rfl
  res := by kernel_rfl
  rty := by kernel_rfl
  ragg := by kernel_rfl
  g0 := fun o h => isNoneG_eq (List.all_eq_true.1 (by kernel_rfl : (rg 0).toList.all isNoneG = true) o h)
  g1 := fun o h => isNoneG_eq (List.all_eq_true.1 (by kernel_rfl : (rg 1).toList.all isNoneG = true) o h)
  c0 := by kernel_rfl
  c1 := by kernel_rfl
  s2 := by kernel_rfl
  c20 := by kernel_rfl
  c21 := by kernel_rfl
  a2 := by kernel_rfl
  p2 := by kernel_rfl
  d2 := by kernel_rfl
  g2 := by kernel_rfl
  mapTy := by kernel_rfl
  s3 := by kernel_rfl
  a3 := by kernel_rfl
  p3 := by kernel_rfl
  d3 := by kernel_rfl
  g3 := by kernel_rfl
  c31 := by kernel_rfl
  s4 := by kernel_rfl
  a4 := by kernel_rfl
  p4 := by kernel_rfl
  d4 := by kernel_rfl
  g4 := by kernel_rfl
  g4' := fun o h => isNoneG_eq (List.all_eq_true.1 (by kernel_rfl : (rg 4).toList.all isNoneG = true) o h)
  c41 := by kernel_rfl
  c42 := by kernel_rfl
  c43 := by kernel_rfl
  c44 := by kernel_rfl
  c45 := by kernel_rfl
  c46 := by kernel_rfl
  zKl := by kernel_rfl
  zEl := by kernel_rfl
  c5 := by kernel_rfl
  g5 := fun o h => isNoneG_eq (List.all_eq_true.1 (by kernel_rfl : (rg 5).toList.all isNoneG = true) o h)
  a5 := by kernel_rfl
  p5 := by kernel_rfl
  d5 := by kernel_rfl
  ord5 := fun md => by cases md <;> kernel_rfl
  dep5 := by kernel_rfl
  c6 := by kernel_rfl
  ok0 := List.all_eq_true.1 (by kernel_rfl : (rg 0).toList.all (okOper Tryz.prog.globals.size 30) = true)
  ok1 := List.all_eq_true.1 (by kernel_rfl : (rg 1).toList.all (okOper Tryz.prog.globals.size 30) = true)
  ok2 := List.all_eq_true.1 (by kernel_rfl : (rg 2).toList.all (okOper Tryz.prog.globals.size 30) = true)
  ok3 := List.all_eq_true.1 (by kernel_rfl : (rg 3).toList.all (okOper Tryz.prog.globals.size 30) = true)
  ok4 := List.all_eq_true.1 (by kernel_rfl : (rg 4).toList.all (okOper Tryz.prog.globals.size 30) = true)
  ok5 := List.all_eq_true.1 (by kernel_rfl : (rg 5).toList.all (okOper Tryz.prog.globals.size 30) = true)
  ok6 := List.all_eq_true.1 (by kernel_rfl : (rg 6).toList.all (okOper Tryz.prog.globals.size 30) = true)
end Go.Kx
