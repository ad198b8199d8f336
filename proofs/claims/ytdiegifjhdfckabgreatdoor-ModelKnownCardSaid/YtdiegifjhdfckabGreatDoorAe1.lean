/-
  PROVED: 'Rows.ModelKnownCardSaid': marqueelaw32.ModelKnown returns true from every world in which the listed library variables hold what the program's text lays into them (the row's condition 'laid'), and leaves memory as it was; by a verified evaluator of the calculus (Go.Ae), run by the kernel. The card ties the pruned copy of the repository only.
  This text: the evaluator and its soundness, part 1 of 6.
-/
import GoSem.Step
import GoSem.ClaimFollow
import Derived.Calls
import Derived.Laws.Sem
import Derived.Laws.World
import Derived.Laws.Cells
import Derived.Laws.Rows
import Derived.Laws.CopyRow
import Derived.Laws.Append
import Derived.RangeFuncIn
import Derived.OrdersIn

section
/-
  AE: an abstract evaluator of Go code (definitions).
-/
namespace Go.Ae

/-! ### tries keyed by numbers -/
inductive Tr (α : Type) where
  | nil
  | node (v : Option α) (l r : Tr α)

namespace Tr
variable {α : Type}
noncomputable def get (t : Tr α) : Nat → Option α :=
  Tr.rec (motive := fun _ => Nat → Option α) (fun _ => none)
    (fun v _ _ gl gr k => Nat.rec (motive := fun _ => Option α) v
      (fun k _ => Bool.rec (motive := fun _ => Option α) (gr (Nat.div k 2)) (gl (Nat.div k 2)) (Nat.beq (Nat.mod k 2) 0)) k) t

/-- one path, f levels at most -/
noncomputable def setF (v : Option α) (f : Nat) : Tr α → Nat → Tr α :=
  Nat.rec (motive := fun _ => Tr α → Nat → Tr α) (fun t _ => t)
    (fun _ ih t k => Tr.rec (motive := fun _ => Tr α)
      (Nat.rec (motive := fun _ => Tr α) (.node v .nil .nil)
        (fun k _ => Bool.rec (motive := fun _ => Tr α) (.node none .nil (ih .nil (Nat.div k 2))) (.node none (ih .nil (Nat.div k 2)) .nil) (Nat.beq (Nat.mod k 2) 0)) k)
      (fun x l r _ _ => Nat.rec (motive := fun _ => Tr α) (.node v l r)
        (fun k _ => Bool.rec (motive := fun _ => Tr α) (.node x l (ih r (Nat.div k 2))) (.node x (ih l (Nat.div k 2)) r) (Nat.beq (Nat.mod k 2) 0)) k) t) f

noncomputable def set (t : Tr α) (k : Nat) (v : α) : Tr α := setF (some v) (k + 1) t k
noncomputable def del (t : Tr α) (k : Nat) : Tr α := setF none (k + 1) t k
noncomputable def ofList : List α → Nat → Tr α → Tr α
  | [], _, t => t
  | x :: xs, n, t => ofList xs (n + 1) (t.set n x)
end Tr

mutual
/-- how values of a type are held against each other -/
inductive Cmp where
  | bool | int | str
  | struct (fs : CmpL)
  | arr (len size : Nat) (agg : Bool) (c : Cmp)
/-- fields: offset, size, aggregate?, how -/
inductive CmpL where
  | nil
  | cons (off n : Nat) (agg : Bool) (c : Cmp) (rest : CmpL)
end
instance : Inhabited Cmp := ⟨.bool⟩

/-- how '==' goes -/
inductive EqK where
  | ptr | slice | map | func | iface
  | cmp (c : Cmp)

/-! ### the heap -/
inductive Jmp where
  | ret | exit (id : Nat)

structure ALoop where
  state : LoopState
  jump : Option Jmp
  tm : Tr Value
  params : List Tmp
  assign : Code
  body : Code
  defers : Nat

/-- an entry of a map: its key, its value, its stamp's name -/
structure ME where
  key : Value
  val : Value
  sid : Nat

inductive AObj where
  | cells (cs : List Value) (elem : TypeId) (fz : Nat) (exact : Bool) (es : Nat)
  | map (es : List ME)
  | siter (s : ByteArray) (pos : Nat)
  | loop (l : ALoop)
  | defer
  | ghost

structure H where
  tr : Tr AObj
  next : Nat
  floor : Nat

noncomputable def capX : Nat := 9223372036854775808

/-- a frame: temporaries, marks of loops' blocks, the loop of which it is a round -/
structure Fr where
  tm : Tr Value
  marks : List Nat
  round : Option Nat

inductive Ex where
  | normal | exit (id : Nat) | ret

/-! ### small words -/
noncomputable def appR {α : Type} (l r : List α) : List α := List.rec (motive := fun _ => List α) r (fun x _ ih => x :: ih) l
noncomputable def lenR {α : Type} (l : List α) : Nat := List.rec (motive := fun _ => Nat) 0 (fun _ _ ih => Nat.succ ih) l

noncomputable def nth {α : Type} (l : List α) : Nat → Option α :=
  List.rec (motive := fun _ => Nat → Option α) (fun _ => none)
    (fun x _ ih n => Nat.rec (motive := fun _ => Option α) (some x) (fun n _ => ih n) n) l

/-- n of a list, from somewhere on: all of them -/
noncomputable def takeX {α : Type} (l : List α) (n : Nat) : Option (List α) :=
  Nat.rec (motive := fun _ => List α → Option (List α)) (fun _ => some [])
    (fun _ ih l => List.rec (motive := fun _ => Option (List α)) none
      (fun x xs _ => Option.rec (motive := fun _ => Option (List α)) none (fun r => some (x :: r)) (ih xs)) l) n l

noncomputable def cut {α : Type} (l : List α) (o n : Nat) : Option (List α) :=
  Nat.rec (motive := fun _ => List α → Option (List α)) (fun l => takeX l n)
    (fun _ ih l => List.rec (motive := fun _ => Option (List α)) none (fun _ xs _ => ih xs) l) o l

/-- vs laid over a list, from its head on -/
noncomputable def layAt0 {α : Type} (l vs : List α) : Option (List α) :=
  List.rec (motive := fun _ => List α → Option (List α)) (fun l => some l)
    (fun v _ ih l => List.rec (motive := fun _ => Option (List α)) none
      (fun _ l _ => Option.rec (motive := fun _ => Option (List α)) none (fun r => some (v :: r)) (ih l)) l) vs l

noncomputable def layAt {α : Type} (l : List α) (o : Nat) (vs : List α) : Option (List α) :=
  Nat.rec (motive := fun _ => List α → Option (List α)) (fun l => layAt0 l vs)
    (fun _ ih l => List.rec (motive := fun _ => Option (List α)) none
      (fun x l _ => Option.rec (motive := fun _ => Option (List α)) none (fun r => some (x :: r)) (ih l)) l) o l

noncomputable def plain (a : Addr) : Bool := match a.spot with | none => true | some _ => false

/-- values that bear no address -/
noncomputable def flatF : Nat → Value → Bool
  | 0, _ => false
  | f + 1, v =>
    match v with
    | .bool _ | .int .. | .float .. | .complex .. | .string _ | .pointer none | .map none | .chan none | .nilFunc | .nilIface => true
    | .slice none n c => Nat.beq n 0 && Nat.beq c 0
    | .func (.func _) a b => List.all a.toList (flatF f) && List.all b.toList (flatF f)
    | .iface _ v => flatF f v
    | .agg cs => List.all cs.toList (flatF f)
    | .tuple cs => List.all cs.toList (flatF f)
    | _ => false
noncomputable def flatV (v : Value) : Bool := flatF 20 v

noncomputable def ev (tm : Tr Value) : Operand → Option Value
  | .tmp t => tm.get t
  | .const v => some v
  | .global g => some (.pointer (some ⟨g, 0, none⟩))
  | .func f => some (.func (.func f) #[] #[])

noncomputable def evs (tm : Tr Value) (l : List Operand) : Option (List Value) :=
  List.rec (motive := fun _ => Option (List Value)) (some [])
    (fun x _ ih => Option.rec (motive := fun _ => Option (List Value)) none
      (fun v => Option.rec (motive := fun _ => Option (List Value)) none (fun vs => some (v :: vs)) ih) (ev tm x)) l

/-- a step that asks nothing of the world -/
noncomputable def pureRun {α : Type} (P : Program) : Sem α → Option α
  | .pure a => some a
  | .program k => pureRun P (k P)
  | .mark _ k => pureRun P k
  | _ => none

noncomputable def flatRun (P : Program) (tm : Tr Value) (o : Oper) : Option Value :=
  match (o.op.operands.toList.all fun x => match ev tm x with | some v => flatV v | none => false) with
  | false => none
  | true =>
    match pureRun P (execOp (fun x => (ev tm x).getD undef) o) with
    | some (.value v) => if flatV v then some v else none
    | _ => none

/-! ### numbers -/
noncomputable def half : Nat := 9223372036854775808
noncomputable def wrapI (k : IntKind) (n : Int) : Int :=
  match k, n with
  | .i64, .ofNat m => cond (Nat.blt m half) n (k.wrap n)
  | .i64, .negSucc m => cond (Nat.blt m half) n (k.wrap n)
  | .i32, .ofNat m => cond (Nat.blt m 2147483648) n (k.wrap n)
  | .u8, .ofNat m => .ofNat (Nat.mod m 256)
  | _, _ => k.wrap n

noncomputable def kindNo : IntKind → Nat
  | .i8 => 0 | .i16 => 1 | .i32 => 2 | .i64 => 3 | .u8 => 4 | .u16 => 5 | .u32 => 6 | .u64 => 7
noncomputable def kEq (j k : IntKind) : Bool := Nat.beq (kindNo j) (kindNo k)

noncomputable def eqI : Int → Int → Bool
  | .ofNat a, .ofNat b => Nat.beq a b
  | .negSucc a, .negSucc b => Nat.beq a b
  | _, _ => false
noncomputable def ltI : Int → Int → Bool
  | .ofNat a, .ofNat b => Nat.blt a b
  | .negSucc a, .negSucc b => Nat.blt b a
  | .negSucc _, .ofNat _ => true
  | .ofNat _, .negSucc _ => false

noncomputable def ibin (op : BinOp) (k : IntKind) (a b : Int) : Option Value :=
  match op with
  | .add => some (.int k (wrapI k (Int.add a b)))
  | .sub => some (.int k (wrapI k (Int.sub a b)))
  | .mul => some (.int k (wrapI k (Int.mul a b)))
  | .eql => some (.bool (eqI a b))
  | .neq => some (.bool (not (eqI a b)))
  | .lss => some (.bool (ltI a b))
  | .leq => some (.bool (not (ltI b a)))
  | .gtr => some (.bool (ltI b a))
  | .geq => some (.bool (not (ltI a b)))
  | .quo => (match b, a with
    | .ofNat (b + 1), .ofNat a => some (.int k (wrapI k (.ofNat (Nat.div a (b + 1)))))
    | _, _ => none)
  | .rem => (match b, a with
    | .ofNat (b + 1), .ofNat a => some (.int k (.ofNat (Nat.mod a (b + 1))))
    | _, _ => none)
  | _ => none

noncomputable def pairAt (agg : Bool) (off n : Nat) (xs ys : List Value) : Option (Value × Value) :=
  match agg with
  | true => (match cut xs off n, cut ys off n with | some a, some b => some (Value.agg a.toArray, Value.agg b.toArray) | _, _ => none)
  | false => (match nth xs off, nth ys off with | some a, some b => some (a, b) | _, _ => none)

noncomputable def cmpArr (f : Value → Value → Option Bool) (size : Nat) (agg : Bool) (xs ys : List Value) : Nat → Nat → Option Bool
  | 0, _ => some true
  | k + 1, off =>
    match pairAt agg off size xs ys with
    | some (a, b) => (match f a b with
      | some true => cmpArr f size agg xs ys k (off + size)
      | r => r)
    | none => none

noncomputable def cmB (x y : Value) : Option Bool := match x, y with | .bool a, .bool b => some (a == b) | _, _ => none
noncomputable def cmI (x y : Value) : Option Bool := match x, y with | .int j a, .int k b => cond (kEq j k) (some (eqI a b)) none | _, _ => none
noncomputable def cmS (x y : Value) : Option Bool := match x, y with | .string a, .string b => some (a == b) | _, _ => none
noncomputable def cmSt (ih : List Value → List Value → Option Bool) (x y : Value) : Option Bool := match x, y with | .agg xs, .agg ys => ih xs.toList ys.toList | _, _ => none
noncomputable def cmAr (len size : Nat) (agg : Bool) (ih : Value → Value → Option Bool) (x y : Value) : Option Bool := match x, y with | .agg xs, .agg ys => cmpArr ih size agg xs.toList ys.toList len 0 | _, _ => none
noncomputable def cmC (off n : Nat) (agg : Bool) (ihc : Value → Value → Option Bool) (ihr : List Value → List Value → Option Bool) (xs ys : List Value) : Option Bool :=
  match pairAt agg off n xs ys with
  | some (a, b) => (match ihc a b with
    | some true => ihr xs ys
    | r => r)
  | none => none
noncomputable def cmpV (c : Cmp) : Value → Value → Option Bool :=
  Cmp.rec (motive_1 := fun _ => Value → Value → Option Bool) (motive_2 := fun _ => List Value → List Value → Option Bool)
    cmB cmI cmS (fun _ ih => cmSt ih) (fun len size agg _ ih => cmAr len size agg ih) (fun _ _ => some true) (fun off n agg _ _ ihc ihr => cmC off n agg ihc ihr) c
noncomputable def cmpFs (c : CmpL) : List Value → List Value → Option Bool :=
  CmpL.rec (motive_1 := fun _ => Value → Value → Option Bool) (motive_2 := fun _ => List Value → List Value → Option Bool)
    cmB cmI cmS (fun _ ih => cmSt ih) (fun len size agg _ ih => cmAr len size agg ih) (fun _ _ => some true) (fun off n agg _ _ ihc ihr => cmC off n agg ihc ihr) c

/-- is it nil, of what can be nil? -/
noncomputable def isNilV : EqK → Value → Option Bool
  | .ptr, .pointer a => some a.isNone
  | .slice, .slice a _ _ => some a.isNone
  | .map, .map r => some r.isNone
  | .func, .nilFunc => some true
  | .func, .func .. => some false
  | .iface, .nilIface => some true
  | .iface, .iface .. => some false
  | _, _ => none

noncomputable def addrEq (a b : Addr) : Bool := plain a && plain b && Nat.beq a.block b.block && Nat.beq a.off b.off

noncomputable def eqV (k : EqK) (x y : Value) : Option Bool :=
  match k with
  | .cmp c => cmpV c x y
  | k =>
    match isNilV k x, isNilV k y with
    | some true, some b => some b
    | some false, some true => some false
    | some false, some false =>
      (match k, x, y with
       | .ptr, .pointer (some a), .pointer (some b) => if addrEq a b then some true else none
       | _, _, _ => none)
    | _, _ => none

/-! ### memory -/
noncomputable def H.cellsAt (h : H) (a : Addr) (n : Nat) : Option (List Value) :=
  if plain a then
    match h.tr.get a.block with
    | some (.cells cs _ _ _ _) => cut cs a.off n
    | _ => none
  else none

noncomputable def H.cell (h : H) (a : Addr) : Option Value :=
  if plain a then
    match h.tr.get a.block with
    | some (.cells cs _ _ _ _) => nth cs a.off
    | _ => none
  else none

noncomputable def H.put (h : H) (b : Nat) (o : AObj) : H := { h with tr := h.tr.set b o }
noncomputable def H.new (h : H) (o : AObj) : Nat × H := (h.next, { h with tr := h.tr.set h.next o, next := Nat.succ h.next })

noncomputable def isOne : Value → Bool
  | .agg _ => false
  | .tuple _ => false
  | _ => true

noncomputable def allOne (l : List Value) : Bool :=
  List.rec (motive := fun _ => Bool) true (fun v _ ih => match isOne v with
    | true => ih
    | false => false) l

noncomputable def H.write (h : H) (a : Addr) (vs : List Value) : Option H :=
  if plain a && Nat.ble h.floor a.block && allOne vs then
    match h.tr.get a.block with
    | some (.cells cs e fz x g) =>
      if Nat.ble fz a.off then
        match layAt cs a.off vs with
        | some cs => some (h.put a.block (.cells cs e fz x g))
        | none => none
      else none
    | _ => none
  else none

noncomputable def asList (v : Value) : List Value := v.cells.toList

noncomputable def aggOf (n : Option Nat) (cs : List Value) (off : Nat) : Option Value :=
  match n with
  | none => nth cs off
  | some n => (cut cs off n).map fun l => .agg l.toArray

noncomputable def fillL (cells : List Value) (l : List (Nat × Nat × Value)) : Option (List Value) :=
  List.rec (motive := fun _ => List Value → Option (List Value)) (fun cells => some cells)
    (fun p _ ih cells => match Nat.beq (lenR (asList p.2.2)) p.2.1 with
      | true => Option.rec (motive := fun _ => Option (List Value)) none (fun cs => ih cs) (layAt cells p.1 (asList p.2.2))
      | false => none) l cells

noncomputable def evParts (tm : Tr Value) (l : List (Nat × Nat × Operand)) : Option (List (Nat × Nat × Value)) :=
  List.rec (motive := fun _ => Option (List (Nat × Nat × Value))) (some [])
    (fun p _ ih => Option.rec (motive := fun _ => Option (List (Nat × Nat × Value))) none
      (fun v => Option.rec (motive := fun _ => Option (List (Nat × Nat × Value))) none (fun vs => some ((p.1, p.2.1, v) :: vs)) ih) (ev tm p.2.2)) l

noncomputable def asIdx : Value → Option Nat
  | .int _ (.ofNat n) => some n
  | _ => none

noncomputable def optIdx (tm : Tr Value) : Option Operand → Option (Option Nat)
  | none => some none
  | some x => match ev tm x with
    | some v => (match asIdx v with | some n => some (some n) | none => none)
    | none => none

/-- bounds of x[lo:hi:mx]: of what has a length and a capacity -/
noncomputable def bounds (len cap : Nat) (lo hi mx : Option Nat) : Option (Nat × Nat × Nat) :=
  let m := mx.getD cap
  let h := hi.getD len
  let l := lo.getD 0
  if Nat.ble m cap && Nat.ble h m && Nat.ble l h && (mx.isNone || hi.isSome) then some (l, h, m) else none

noncomputable def byteV (b : UInt8) : Value := .int .u8 b.toNat

noncomputable def bytesIn : List Value → Option (List UInt8)
  | [] => some []
  | .int .u8 (.ofNat n) :: vs => match bytesIn vs with | some l => some (UInt8.ofNat n :: l) | none => none
  | _ :: _ => none

/-- the cells of what is appended, or copied: so many of it -/
noncomputable def srcCells (h : H) (es : Nat) (n : Nat) : Value → Option (List Value)
  | .slice none _ _ => if Nat.beq n 0 then some [] else none
  | .slice (some a) len _ => if Nat.ble n len then h.cellsAt a (Nat.mul n es) else none
  | .string s => if Nat.beq n s.size && Nat.beq es 1 then some (s.data.toList.map byteV) else none
  | _ => none

noncomputable def srcLen : Value → Option Nat
  | .slice none n _ => if Nat.beq n 0 then some 0 else none
  | .slice (some _) n _ => some n
  | .string s => some s.size
  | _ => none

noncomputable def maxRoom : Nat := 1099511627776

noncomputable def appendV (h : H) (elem : TypeId) (es bytes : Nat) (s x : Value) : Option (Value × H) :=
  match s, srcLen x with
  | .slice base len cap, some n =>
    if Nat.beq n 0 then (if Nat.ble len cap then some (s, h) else none) else
    match srcCells h es n x with
    | none => none
    | some new =>
    if Nat.beq es 0 || !(allOne new) then none else
    if Nat.ble maxRoom (Nat.mul (len + n) (Nat.succ bytes)) then none else
    match base with
    | none =>
      if Nat.beq len 0 && Nat.beq cap 0 then
        let (b, h) := h.new (.cells new elem 0 false es)
        some (.slice (some ⟨b, 0, none⟩) n capX, h)
      else none
    | some a =>
      match h.cellsAt a (Nat.mul len es) with
      | none => none
      | some old =>
        if Nat.beq cap capX then
          -- who knows whether there is room: the block becomes another one
          match h.tr.get a.block with
          | some (.cells cs e2 fz _ g) =>
            if Nat.beq (lenR cs) (a.off + Nat.mul len es) && Nat.ble h.floor a.block && Nat.beq g es && Nat.ble fz (a.off + Nat.mul len es) && Nat.beq e2 elem then
              let h := { h with tr := h.tr.del a.block }
              let (b, h) := h.new (.cells (appR old new) elem (old.length) false es)
              some (.slice (some ⟨b, 0, none⟩) (len + n) capX, h)
            else none
          | _ => none
        else if Nat.ble (len + n) cap then
          match h.write ⟨a.block, a.off + Nat.mul len es, none⟩ new with
          | some h => some (.slice base (len + n) cap, h)
          | none => none
        else
          let (b, h) := h.new (.cells (appR old new) elem 0 false es)
          some (.slice (some ⟨b, 0, none⟩) (len + n) capX, h)
  | _, _ => none

/-- the one entry of a key -/
noncomputable def findKey (c : Cmp) (k : Value) (l : List ME) : Option (Option ME) :=
  List.rec (motive := fun _ => Option (Option ME)) (some none)
    (fun e _ ih => match cmpV c k e.key, ih with
      | some false, some r => some r
      | some true, some none => some (some e)
      | _, _ => none) l

/-- the one entry of a key of the right shape -/
noncomputable def findK (c : Cmp) (k : Value) (es : List ME) : Option (Option ME) :=
  match cmpV c k k with
  | some true => findKey c k es
  | _ => none

/-- the entry of a stamp gets another value -/
noncomputable def putSid (sid : Nat) (v : Value) : List ME → Option (List ME)
  | [] => none
  | e :: es =>
    if Nat.beq e.sid sid then some ({ e with val := v } :: es)
    else (match putSid sid v es with | some r => some (e :: r) | none => none)

noncomputable def mapOf (h : H) (r : Nat) : Option (List ME) :=
  match h.tr.get r with
  | some (.map es) => some es
  | _ => none

/-- a new entry, in front -/
noncomputable def H.addEntry (h : H) (r : Nat) (es : List ME) (k v : Value) : H :=
  { h with tr := h.tr.set r (.map ({ key := k, val := v, sid := h.next } :: es)), next := Nat.succ h.next }

/-- m[k] = v -/
noncomputable def mapPut (c : Cmp) (h : H) (r : Nat) (k v : Value) : Option H :=
  if Nat.ble h.floor r && flatV k then
    match mapOf h r with
    | some es =>
      (match findK c k es with
       | some none => some (h.addEntry r es k v)
       | some (some e) =>
         if Instr.sameBits 10000 e.key k then (match putSid e.sid v es with | some es => some (h.put r (.map es)) | none => none) else none
       | none => none)
    | none => none
  else none

/-! ### the evaluator -/
structure Rec where
  code : Code → Fr → H → Option (Ex × Fr × H)
  call : FuncId → List Value → H → Option (Value × H)

abbrev OpF := Rec → Tr Value → H → Option (Value × H)

noncomputable def argsIn (l : List Value) : Nat → Tr Value → Tr Value :=
  List.rec (motive := fun _ => Nat → Tr Value → Tr Value) (fun _ t => t) (fun v _ ih n t => ih (Nat.succ n) (t.set n v)) l

noncomputable def paramsIn : List Tmp → List Value → Tr Value → Option (Tr Value)
  | [], [], t => some t
  | p :: ps, v :: vs, t => paramsIn ps vs (t.set p v)
  | _, _, _ => none


/-- the end of a round -/
noncomputable def roundEnd (l : Nat) : Option (Ex × Fr × H) → Option (Value × H)
  | some (ex, fr, h) =>
    (match h.tr.get l, fr.marks with
     | some (.loop r), [] =>
      (match ex with
       | .normal => some (.bool true, h.put l (.loop { r with state := .ready, jump := none }))
       | .ret => some (.bool false, h.put l (.loop { r with state := .done, jump := some .ret }))
       | .exit id => some (.bool false, h.put l (.loop { r with state := .done, jump := some (.exit id) })))
     | _, _ => none)
  | none => none

/-- a round, behind the assignment to the loop's variables -/
noncomputable def roundMid (R : Rec) (l : Nat) (body : Code) : Option (Ex × Fr × H) → Option (Value × H)
  | some (.normal, fr, h) =>
    (match h.tr.get l with
     | some (.loop r) =>
      (match r.state with
       | .ready => roundEnd l (R.code body fr (h.put l (.loop { r with state := .busy })))
       | _ => none)
     | _ => none)
  | _ => none

noncomputable def round (R : Rec) (l : Nat) (args : List Value) (h : H) : Option (Value × H) :=
  match Nat.ble h.floor l, h.tr.get l with
  | true, some (.loop r) =>
    (match paramsIn r.params args r.tm with
     | some tm => roundMid R l r.body (R.code r.assign ⟨tm, [], some l⟩ h)
     | none => none)
  | _, _ => none

noncomputable def callVal (R : Rec) (f : Value) (args : List Value) (h : H) : Option (Value × H) :=
  match f with
  | .func (.func g) first captured => R.call g (List.append first.toList (List.append args captured.toList)) h
  | .func (.yield l) first _ => (match first.toList with | [] => round R l args h | _ :: _ => none)
  | _ => none

/-- each entry of a map by a function that writes nothing -/
noncomputable def eachEntry (R : Rec) (f : Value) (h : H) : List ME → Nat → Option (List ME)
  | [], _ => some []
  | e :: es, n =>
    match callVal R f [e.key, e.val] { h with floor := h.next } with
    | some (u, _) => if flatV u && flatV e.key && flatV e.val then (match eachEntry R f h es (Nat.succ n) with | some r => some ({ key := e.key, val := u, sid := n } :: r) | none => none) else none
    | none => none

/-- keys that are all different -/
noncomputable def keysApart (c : Cmp) : List ME → Bool
  | [] => true
  | e :: es => (match findK c e.key es with | some none => true | _ => false) && keysApart c es

/-- what a row of so many cells can hold -/
noncomputable def fitsIn (n : Nat) (v : Value) : Bool := Nat.beq (asList v).length n && allOne (asList v) && (match v with | .agg _ => true | _ => false)

noncomputable def allFit (nk ne : Nat) : List ME → Bool
  | [] => true
  | e :: es => fitsIn nk e.key && fitsIn ne e.val && allFit nk ne es

noncomputable def allFlat (l : List ME) : Bool := List.all l fun e => flatV e.key && flatV e.val

/-- half of the names -/
noncomputable def mid : Nat := 4611686018427387904

/-- the summary of a function that makes a map anew, entry by entry: c: how keys are held against each other; nk, ne: their and the elements' sizes -/
noncomputable def cellsSumm (c : Cmp) (nk ne : Nat) (R : Rec) (args : List Value) (h : H) : Option (Value × H) :=
  match args with
  | [.agg m, f] =>
    (match m.toList with
     | [.int i a, .int j b, .map (some r)] =>
      (match mapOf h r with
       | some es => (match Nat.ble h.next (Nat.sub mid 1) && keysApart c es && allFit nk ne es && Nat.ble h.floor h.next, eachEntry R f h es (Nat.succ h.next) with
         | true, some us => if allFit nk ne us then some (.agg #[.int i a, .int j b, .map (some h.next)], { h with tr := h.tr.set h.next (.map us), next := Nat.succ h.next + es.length }) else none
         | _, _ => none)
       | none => none)
     | _ => none)
  | _ => none

noncomputable def retV (v : Option Value) (h : H) : Option (Value × H) :=
  match v with
  | some v => some (v, h)
  | none => none

noncomputable def newV (h : H) (o : AObj) (mk : Addr → Value) : Option (Value × H) :=
  let (b, h) := h.new o
  some (mk ⟨b, 0, none⟩, h)

noncomputable def ptrTo (a : Addr) : Value := .pointer (some a)

noncomputable def moved (a : Addr) (n : Nat) : Addr := ⟨a.block, a.off + n, none⟩

noncomputable def oPick (tm : Tr Value) (h : H) (c a b : Operand) : Option (Value × H) :=
  match ev tm c with
  | some (.bool true) => retV (ev tm a) h
  | some (.bool false) => retV (ev tm b) h
  | _ => none

noncomputable def oBox (tm : Tr Value) (h : H) (elem : TypeId) (x : Operand) : Option (Value × H) :=
  match ev tm x with
  | some v => newV h (.cells (asList v) elem 0 true 0) ptrTo
  | none => none

noncomputable def oBuild (tm : Tr Value) (h : H) (zero : Array Value) (parts : List (Nat × Nat × Operand)) : Option (Value × H) :=
  match evParts tm parts with
  | some ps => (match fillL zero.toList ps with
    | some cs => some (.agg cs.toArray, h)
    | none => none)
  | none => none

noncomputable def oBslice (tm : Tr Value) (h : H) (elem : TypeId) (zeros : Array Value) (len : Nat) (parts : List (Nat × Nat × Operand)) : Option (Value × H) :=
  match evParts tm parts with
  | some ps => (match fillL zeros.toList ps with
    | some cs => newV h (.cells cs elem 0 true 0) (fun a => .slice (some a) len len)
    | none => none)
  | none => none

noncomputable def oLoad (tm : Tr Value) (h : H) (n : Option Nat) (x : Operand) : Option (Value × H) :=
  match ev tm x with
  | some (.pointer (some a)) =>
    (match n with
     | none => retV (h.cell a) h
     | some n => (match h.cellsAt a n with | some cs => some (.agg cs.toArray, h) | none => none))
  | _ => none

noncomputable def storeV (h : H) (n : Nat) (a : Addr) (cs : List Value) : Option (Value × H) :=
  match Nat.beq (lenR cs) n with
  | true => (match h.write a cs with | some h => some (undef, h) | none => none)
  | false => none

noncomputable def oStore (tm : Tr Value) (h : H) (n : Nat) (a v : Operand) : Option (Value × H) :=
  match ev tm a, ev tm v with
  | some (.pointer (some a)), some v => storeV h n a (asList v)
  | _, _ => none

noncomputable def nilckV : Value → Bool
  | .pointer none => false
  | .nilIface => false
  | .nilFunc => false
  | .func (.func _) _ _ => true
  | .func (.yield _) _ _ => true
  | .func .. => false
  | _ => true

noncomputable def oNilck (tm : Tr Value) (h : H) (x : Operand) : Option (Value × H) :=
  match ev tm x with
  | some v => (match nilckV v with | true => some (v, h) | false => none)
  | none => none

noncomputable def oIbin (P : Program) (tm : Tr Value) (h : H) (op : BinOp) (x y : Operand) (o : Oper) : Option (Value × H) :=
  match ev tm x, ev tm y with
  | some (.int j a), some (.int k b) =>
    (match kEq j k with
     | true => (match ibin op j a b with | some v => some (v, h) | none => retV (flatRun P tm o) h)
     | false => none)
  | _, _ => none

noncomputable def oEq (tm : Tr Value) (h : H) (neg : Bool) (x y : Operand) (k : EqK) : Option (Value × H) :=
  match ev tm x, ev tm y with
  | some a, some b => (match eqV k a b with
    | some true => some (.bool (not neg), h)
    | some false => some (.bool neg, h)
    | none => none)
  | _, _ => none

noncomputable def oFaddr (tm : Tr Value) (h : H) (off : Nat) (x : Operand) : Option (Value × H) :=
  match ev tm x with
  | some (.pointer (some a)) => (match plain a with | true => some (ptrTo (moved a off), h) | false => none)
  | _ => none

noncomputable def idxAt (h : H) (len es : Nat) (a : Addr) (i : Value) : Option (Value × H) :=
  match asIdx i with
  | some i => (match plain a && Nat.blt i len with | true => some (ptrTo (moved a (Nat.mul i es)), h) | false => none)
  | none => none

noncomputable def oIaddrA (tm : Tr Value) (h : H) (len es : Nat) (x i : Operand) : Option (Value × H) :=
  match ev tm x, ev tm i with
  | some (.pointer (some a)), some i => idxAt h len es a i
  | _, _ => none

noncomputable def oIaddrS (tm : Tr Value) (h : H) (es : Nat) (x i : Operand) : Option (Value × H) :=
  match ev tm x, ev tm i with
  | some (.slice (some a) len _), some i => idxAt h len es a i
  | _, _ => none

/-- x[lo:hi:mx] of what lies at an address, and has a length and a capacity that is known -/
noncomputable def slicedAt (h : H) (a : Addr) (len cap es : Nat) (lo hi mx : Option Nat) : Option (Value × H) :=
  match bounds len cap lo hi mx with
  | some (l, hh, m) =>
    (match plain a with
     | true => some (.slice (some (cond (Nat.beq m l) a (moved a (Nat.mul l es)))) (Nat.sub hh l) (Nat.sub m l), h)
     | false => none)
  | none => none

noncomputable def oSliceA (tm : Tr Value) (h : H) (len es : Nat) (x : Operand) (lo hi mx : Option Operand) : Option (Value × H) :=
  match ev tm x, optIdx tm lo, optIdx tm hi, optIdx tm mx with
  | some (.pointer (some a)), some lo, some hi, some mx => slicedAt h a len len es lo hi mx
  | _, _, _, _ => none

/-- the same where the capacity is not known -/
noncomputable def growEs (h : H) (b : Nat) : Nat :=
  match h.tr.get b with
  | some (.cells _ _ _ _ g) => g
  | _ => 0

noncomputable def slicedX (h : H) (a : Addr) (len es : Nat) (lo hi mx : Option Nat) : Option (Value × H) :=
  match bounds len len lo hi mx, mx with
  | some (l, hh, m), some _ =>
    (match plain a && (Nat.beq l 0 || Nat.blt l m) with
     | true => some (.slice (some (moved a (Nat.mul l es))) (Nat.sub hh l) (Nat.sub m l), h)
     | false => none)
  | some (l, hh, _), none =>
    (match plain a && Nat.beq (growEs h a.block) es && Nat.blt 0 es with
     | true => some (.slice (some (moved a (Nat.mul l es))) (Nat.sub hh l) capX, h)
     | false => none)
  | none, _ => none

noncomputable def oSliceS (tm : Tr Value) (h : H) (es : Nat) (x : Operand) (lo hi mx : Option Operand) : Option (Value × H) :=
  match ev tm x, optIdx tm lo, optIdx tm hi, optIdx tm mx with
  | some (.slice (some a) len cap), some lo, some hi, some mx =>
    (match Nat.beq cap capX with
     | true => slicedX h a len es lo hi mx
     | false => slicedAt h a len cap es lo hi mx)
  | some (.slice none len cap), some lo, some hi, some mx =>
    (match bounds len cap lo hi mx with
     | some (l, hh, m) => some (.slice none (Nat.sub hh l) (Nat.sub m l), h)
     | none => none)
  | _, _, _, _ => none

noncomputable def oPart (tm : Tr Value) (h : H) (n : Option Nat) (off : Nat) (x : Operand) : Option (Value × H) :=
  match ev tm x with
  | some (.agg cs) => retV (aggOf n cs.toList off) h
  | _ => none

noncomputable def oIndexA (tm : Tr Value) (h : H) (len es : Nat) (agg : Bool) (x i : Operand) : Option (Value × H) :=
  match ev tm x, ev tm i with
  | some (.agg cs), some i => (match asIdx i with
    | some i => (match Nat.blt i len with
      | true => retV (aggOf (cond agg (some es) none) cs.toList (Nat.mul i es)) h
      | false => none)
    | none => none)
  | _, _ => none

noncomputable def oExtract (tm : Tr Value) (h : H) (x : Operand) (i : Nat) : Option (Value × H) :=
  match ev tm x with
  | some (.tuple vs) => retV (nth vs.toList i) h
  | _ => none

noncomputable def oMkFunc (tm : Tr Value) (h : H) (fn : Fn) (first captured : List Operand) : Option (Value × H) :=
  match fn, evs tm first, evs tm captured with
  | .func g, some a, some b => some (.func (.func g) a.toArray b.toArray, h)
  | _, _, _ => none

noncomputable def oMkIface (tm : Tr Value) (h : H) (t : TypeId) (x : Operand) : Option (Value × H) :=
  match ev tm x with
  | some v => some (.iface t v, h)
  | none => none

noncomputable def oMkSlice (tm : Tr Value) (h : H) (elem : TypeId) (es bytes : Nat) (zero : List Value) (l c : Operand) : Option (Value × H) :=
  match ev tm l, ev tm c with
  | some l, some c => (match asIdx l, asIdx c with
    | some l, some c =>
      (match Nat.ble l c && Nat.ble (Nat.mul c bytes) maxRoom && Nat.ble (Nat.mul c es) 65536 && Nat.ble c 16777216 && Nat.beq (lenR zero) es with
       | true => newV h (.cells (List.flatten (List.replicate c zero)) elem 0 true 0) (fun a => .slice (some a) l c)
       | false => none)
    | _, _ => none)
  | _, _ => none

noncomputable def mapIn (h : H) : Option Nat → Option (List ME)
  | none => some []
  | some r => mapOf h r

noncomputable def oLookup (tm : Tr Value) (h : H) (c : Cmp) (zero : Value) (m k : Operand) (ok : Bool) : Option (Value × H) :=
  match ev tm m, ev tm k with
  | some (.map r), some k =>
    (match mapIn h r with
     | some es => (match findK c k es with
       | some (some e) => some (cond ok (.tuple #[e.val, .bool true]) e.val, h)
       | some none => some (cond ok (.tuple #[zero, .bool false]) zero, h)
       | none => none)
     | none => none)
  | _, _ => none

noncomputable def oMapUpd (tm : Tr Value) (h : H) (c : Cmp) (m k v : Operand) : Option (Value × H) :=
  match ev tm m, ev tm k, ev tm v with
  | some (.map (some r)), some k, some v => (match mapPut c h r k v with | some h => some (undef, h) | none => none)
  | _, _, _ => none

noncomputable def entryV (h : H) (c : Cmp) (zero : Value) (r : Nat) (k : Value) : Option (Value × H) :=
  match Nat.ble h.floor r && flatV k, mapOf h r with
  | true, some es => (match findK c k es with
    | some none => some (.tuple #[zero, .chan (some h.next)], h.addEntry r es k zero)
    | some (some e) => if Instr.sameBits 10000 e.key k then some (.tuple #[e.val, .chan (some e.sid)], h) else none
    | none => none)
  | _, _ => none

noncomputable def oMapEntry (tm : Tr Value) (h : H) (c : Cmp) (zero : Value) (m k : Operand) : Option (Value × H) :=
  match ev tm m, ev tm k with
  | some (.map (some r)), some k => entryV h c zero r k
  | _, _ => none

noncomputable def storeSid (h : H) (r sid : Nat) (v : Value) : Option (Value × H) :=
  match Nat.ble h.floor r, mapOf h r with
  | true, some es => (match putSid sid v es with | some es => some (undef, h.put r (.map es)) | none => none)
  | _, _ => none

noncomputable def oEntryStore (tm : Tr Value) (h : H) (m s v : Operand) : Option (Value × H) :=
  match ev tm m, ev tm s, ev tm v with
  | some (.map (some r)), some (.chan (some sid)), some v => storeSid h r sid v
  | _, _, _ => none

noncomputable def oLenS (tm : Tr Value) (h : H) (x : Operand) : Option (Value × H) :=
  match ev tm x with
  | some (.slice _ n _) => some (.int .i64 (.ofNat n), h)
  | _ => none

noncomputable def oLenT (tm : Tr Value) (h : H) (x : Operand) : Option (Value × H) :=
  match ev tm x with
  | some (.string s) => some (.int .i64 (.ofNat s.size), h)
  | _ => none

noncomputable def oLenM (tm : Tr Value) (h : H) (x : Operand) : Option (Value × H) :=
  match ev tm x with
  | some (.map r) => (match mapIn h r with | some es => some (.int .i64 (.ofNat es.length), h) | none => none)
  | _ => none

noncomputable def oAppend (tm : Tr Value) (h : H) (elem : TypeId) (es bytes : Nat) (x y : Operand) : Option (Value × H) :=
  match ev tm x, ev tm y with
  | some s, some x => appendV h elem es bytes s x
  | _, _ => none

noncomputable def headOf (k : Nat) : Value → Value
  | .string s => .string ⟨(s.data.toList.take k).toArray⟩
  | v => v

noncomputable def copyV (h : H) (es : Nat) (base : Option Addr) (len : Nat) (x : Value) (n : Nat) : Option (Value × H) :=
  if Nat.beq (Nat.min n len) 0 then some (.int .i64 0, h) else
  match srcCells h es (Nat.min n len) (headOf (Nat.min n len) x), base with
  | some _, none => some (.int .i64 (.ofNat (Nat.min n len)), h)
  | some cs, some a => (match h.write a cs with | some h => some (.int .i64 (.ofNat (Nat.min n len)), h) | none => none)
  | none, _ => none

noncomputable def oCopy (tm : Tr Value) (h : H) (es : Nat) (x y : Operand) : Option (Value × H) :=
  match ev tm x, ev tm y with
  | some (.slice base len _), some x => (match srcLen x with
    | some n => copyV h es base len x n
    | none => none)
  | _, _ => none

noncomputable def oClearS (tm : Tr Value) (h : H) (zero : List Value) (x : Operand) : Option (Value × H) :=
  match ev tm x with
  | some (.slice none _ _) => some (.tuple #[], h)
  | some (.slice (some _) 0 _) => some (.tuple #[], h)
  | some (.slice (some a) (n + 1) _) => (match h.write a (List.flatten (List.replicate (n + 1) zero)) with | some h => some (.tuple #[], h) | none => none)
  | _ => none

noncomputable def oStrOfBytes (tm : Tr Value) (h : H) (x : Operand) : Option (Value × H) :=
  match ev tm x with
  | some (.slice none _ _) => some (.string .empty, h)
  | some (.slice (some a) n _) => (match h.cellsAt a n with
    | some cs => (match bytesIn cs with | some bs => some (.string ⟨bs.toArray⟩, h) | none => none)
    | none => none)
  | _ => none

noncomputable def oBytesOfStr (tm : Tr Value) (h : H) (elem : TypeId) (x : Operand) : Option (Value × H) :=
  match ev tm x with
  | some (.string s) => (match Nat.ble s.size 16777216 with
    | true => newV h (.cells (s.data.toList.map byteV) elem capX false 1) (fun a => .slice (some a) s.size capX)
    | false => none)
  | _ => none

noncomputable def oUsd (tm : Tr Value) (h : H) (x : Operand) : Option (Value × H) :=
  match ev tm x with
  | some (.slice none _ _) => some (.pointer none, h)
  | some (.slice (some a) n c) => (match plain a && Nat.blt 0 n && Nat.ble n c with | true => some (ptrTo a, h) | false => none)
  | _ => none

noncomputable def ustrAt (h : H) (elem : TypeId) (a : Addr) (n : Nat) : Option (Value × H) :=
  match plain a && Nat.ble h.floor a.block && Nat.ble n 16777216, h.tr.get a.block with
  | true, some (.cells cs e fz x g) =>
    (match Nat.beq e elem with
     | true => (match cut cs a.off n with
       | some l => (match bytesIn l with
         | some bs => some (.string ⟨bs.toArray⟩, h.put a.block (.cells cs e (Nat.max fz (Nat.add a.off n)) x g))
         | none => none)
       | none => none)
     | false => none)
  | _, _ => none

noncomputable def oUstr (tm : Tr Value) (h : H) (elem : TypeId) (x n : Operand) : Option (Value × H) :=
  match ev tm x, ev tm n with
  | some (.pointer p), some n => (match asIdx n, p with
    | some 0, _ => some (.string .empty, h)
    | some (n + 1), some a => ustrAt h elem a (n + 1)
    | _, _ => none)
  | _, _ => none

noncomputable def oToUns (tm : Tr Value) (h : H) (x : Operand) : Option (Value × H) :=
  match ev tm x with
  | some (.pointer none) => some (.pointer none, h)
  | some (.pointer (some a)) => (match h.cell a with | some _ => some (ptrTo a, h) | none => none)
  | _ => none

noncomputable def oFromUns (tm : Tr Value) (h : H) (t : TypeId) (n : Nat) (x : Operand) : Option (Value × H) :=
  match ev tm x with
  | some (.pointer none) => some (.pointer none, h)
  | some (.pointer (some a)) => (match h.tr.get a.block with
    | some (.cells cs e _ true _) => (match plain a && Nat.beq a.off 0 && Nat.beq e t && Nat.beq (lenR cs) n with | true => some (ptrTo a, h) | false => none)
    | _ => none)
  | _ => none

noncomputable def oRangeStr (tm : Tr Value) (h : H) (x : Operand) : Option (Value × H) :=
  match ev tm x with
  | some (.string s) => newV h (.siter s 0) ptrTo
  | _ => none

noncomputable def nextV (h : H) (r : Nat) : Option (Value × H) :=
  match h.tr.get r with
  | some (.siter s pos) =>
    (match Nat.blt pos s.size, Nat.ble h.floor r with
     | true, true =>
       some (.tuple #[.bool true, .int .i64 (.ofNat pos), .int .i32 (Utf8.decode s pos).1], h.put r (.siter s (Nat.add pos (Utf8.decode s pos).2)))
     | false, _ => some (.tuple #[.bool false], h)
     | _, _ => none)
  | _ => none

noncomputable def oNextStr (tm : Tr Value) (h : H) (x : Operand) : Option (Value × H) :=
  match ev tm x with
  | some (.pointer (some a)) => (match plain a && Nat.beq a.off 0 with | true => nextV h a.block | false => none)
  | _ => none

noncomputable def oCallF (R : Rec) (tm : Tr Value) (h : H) (f : FuncId) (args : List Operand) : Option (Value × H) :=
  match evs tm args with
  | some vs => R.call f vs h
  | none => none

noncomputable def oCallV (R : Rec) (tm : Tr Value) (h : H) (f : Operand) (args : List Operand) : Option (Value × H) :=
  match ev tm f, evs tm args with
  | some f, some vs => callVal R f vs h
  | _, _ => none


noncomputable def oConv (tm : Tr Value) (h : H) (k : IntKind) (x : Operand) : Option (Value × H) :=
  match ev tm x with
  | some (.int _ n) => some (.int k (wrapI k n), h)
  | _ => none

/-! ### an operation as a function -/
structure TI where
  und : TypeDesc
  size : Nat
  bytes : Nat
  zero : Option Value

noncomputable def TI.agg (i : TI) : Bool := match i.und with | .struct _ | .array _ _ => true | _ => false

abbrev TT := TypeId → Option TI

noncomputable def tiOf (P : Program) (t : TypeId) : Option TI :=
  match P.info? t, P.underlying t with
  | some i, some u => some { und := u, size := i.size, bytes := i.bytes, zero := i.zero }
  | _, _ => none

structure Ctx where
  P : Program
  T : TT
  stood : TypeId → Bool
  summ : FuncId → Option (Rec → List Value → H → Option (Value × H))

noncomputable def aggN (i : TI) : Option Nat := if i.agg then some i.size else none

noncomputable def cmpOf (T : TT) (stood : TypeId → Bool) : Nat → TypeId → Option Cmp
  | 0, _ => none
  | f + 1, t =>
    match T t with
    | none => none
    | some i =>
      match i.und with
      | .bool => some .bool
      | .int _ => some .int
      | .string => some .str
      | .struct fs =>
        if stood t then none else
        (fs.toList.foldr (fun g (r : Option CmpL) =>
          if g.name = "_" then none else
          match r, T g.type, cmpOf T stood f g.type with
          | some r, some j, some c => some (.cons g.offset j.size j.agg c r)
          | _, _, _ => none) (some .nil)).map .struct
      | .array n e =>
        (match T e, cmpOf T stood f e with
         | some j, some c => some (.arr n j.size j.agg c)
         | _, _ => none)
      | _ => none

noncomputable def partsOf (place : Nat → Option (Nat × Nat)) : List (Nat × Operand) → Option (List (Nat × Nat × Operand))
  | [] => some []
  | (i, x) :: rest => match place i, partsOf place rest with
    | some (a, b), some r => some ((a, b, x) :: r)
    | _, _ => none

noncomputable def isConstO : Operand → Bool
  | .const _ => true
  | _ => false

noncomputable def eqKind (T : TT) (stood : TypeId → Bool) (x y : Operand) (t : TypeId) : Option EqK :=
  match T t with
  | none => none
  | some i =>
    match i.und with
    | .pointer e => (match T e with | some _ => some .ptr | none => none)
    | .slice _ => some .slice
    | .map _ _ => some .map
    | .func _ _ _ => some .func
    | .interface _ => cond (isConstO x || isConstO y) (some .iface) none
    | _ => (cmpOf T stood 12 t).map .cmp

/-- a zero value that bears no address -/
noncomputable def zeroOf (i : TI) : Option Value :=
  match i.zero with
  | some z => cond (flatV z) (some z) none
  | none => none

noncomputable def placesOf (T : TT) : List Field → Option (List (Nat × Nat))
  | [] => some []
  | f :: fs => match T f.type, placesOf T fs with
    | some j, some r => some ((f.offset, j.size) :: r)
    | _, _ => none

noncomputable def noOp : OpF := fun _ _ _ => none

noncomputable def opF (X : Ctx) (o : Oper) : OpF :=
  ((match o.op with
  | .move x | .assign x => some fun _ tm h => retV (ev tm x) h
  | .pick c a b => some fun _ tm h => oPick tm h c a b
  | .alloc e => (X.T e).bind fun i => (zeroOf i).map fun z => fun _ _ h => newV h (.cells z.cells.toList e 0 true 0) ptrTo
  | .box e x => some fun _ tm h => oBox tm h e x
  | .build t parts => (X.T t).bind fun i => (zeroOf i).bind fun z =>
    match i.und with
    | .struct fs => (placesOf X.T fs.toList).bind fun pl => (partsOf (fun k => pl[k]?) parts.toList).map fun ps => fun _ tm h => oBuild tm h z.cells ps
    | .array _ e => (X.T e).bind fun j => (partsOf (fun k => some (k * j.size, j.size)) parts.toList).map fun ps => fun _ tm h => oBuild tm h z.cells ps
    | _ => none
  | .buildSlice t len parts => (X.T t).bind fun i =>
    match i.und with
    | .slice e => (X.T e).bind fun j =>
      if len * j.size > 65536 || len > 65536 then none else
      (if len * j.size = 0 then some #[] else (zeroOf j).map (·.cells)).bind fun z =>
        (partsOf (fun k => some (k * j.size, j.size)) parts.toList).map fun ps => fun _ tm h => oBslice tm h e ((Array.range (len * j.size)).map (z[· % z.size]!)) len ps
    | _ => none
  | .insert t m k v | .mapUpdate t m k v => (X.T t).bind fun i =>
    match i.und with
    | .map kt _ => (cmpOf X.T X.stood 12 kt).map fun c => fun _ tm h => oMapUpd tm h c m k v
    | _ => none
  | .mapEntry t m k => (X.T t).bind fun i =>
    match i.und with
    | .map kt e => (X.T e).bind fun j => (zeroOf j).bind fun z => (cmpOf X.T X.stood 12 kt).map fun c => fun _ tm h => oMapEntry tm h c z m k
    | _ => none
  | .entryStore _ m s v => some fun _ tm h => oEntryStore tm h m s v
  | .load t a => (X.T t).map fun i => fun _ tm h => oLoad tm h (aggN i) a
  | .store t a v => (X.T t).map fun i => fun _ tm h => oStore tm h i.size a v
  | .nilCheck x => some fun _ tm h => oNilck tm h x
  | .binOp op t x y _ => (X.T t).bind fun i =>
    match op with
    | .shl | .shr => some fun _ tm h => retV (flatRun X.P tm o) h
    | .eql => (eqKind X.T X.stood x y t).map fun k => fun _ tm h => oEq tm h false x y k
    | .neq => (eqKind X.T X.stood x y t).map fun k => fun _ tm h => oEq tm h true x y k
    | _ => match i.und with
      | .int _ => some fun _ tm h => oIbin X.P tm h op x y o
      | _ => some fun _ tm h => retV (flatRun X.P tm o) h
  | .unOp .. => some fun _ tm h => retV (flatRun X.P tm o) h
  | .convert s d x => (X.T s).bind fun i => (X.T d).bind fun j =>
    match i.und, j.und with
    | .string, .slice e => (X.T e).bind fun k => (match k.und with | .int .u8 => some fun _ tm h => oBytesOfStr tm h e x | _ => none)
    | .slice e, .string => (X.T e).bind fun k => (match k.und with | .int .u8 => some fun _ tm h => oStrOfBytes tm h x | _ => none)
    | .pointer e, .unsafePointer => (X.T e).bind fun k => cond (Nat.beq k.size 0) none (some fun _ tm h => oToUns tm h x)
    | .unsafePointer, .pointer e => (X.T e).bind fun k => cond (Nat.beq k.size 0) none (some fun _ tm h => oFromUns tm h e k.size x)
    | .slice _, .slice _ => none
    | .int _, .int k => some fun _ tm h => oConv tm h k x
    | _, _ => some fun _ tm h => retV (flatRun X.P tm o) h
  | .makeInterface t x => (X.T t).bind fun i => (match i.und with | .interface _ => none | _ => some fun _ tm h => oMkIface tm h t x)
  | .makeFunc fn a b => some fun _ tm h => oMkFunc tm h fn a.toList b.toList
  | .makeMap _ none => some (fun (_ : Rec) (_ : Tr Value) (h : H) => newV h (.map []) (fun a => .map (some a.block)))
  | .makeSlice t l c => (X.T t).bind fun i =>
    match i.und with
    | .slice e => (X.T e).bind fun j => (zeroOf j).map fun z => fun _ tm h => oMkSlice tm h e j.size j.bytes z.cells.toList l c
    | _ => none
  | .slice t x lo hi mx => (X.T t).bind fun i =>
    match i.und with
    | .string => some fun _ tm h => retV (flatRun X.P tm o) h
    | .slice e => (X.T e).map fun j => fun _ tm h => oSliceS tm h j.size x lo hi mx
    | .array n e => (X.T e).bind fun j => cond (Nat.blt n capX) (some fun _ tm h => oSliceA tm h n j.size x lo hi mx) none
    | .pointer arr => (X.T arr).bind fun k => (match k.und with | .array n e => (X.T e).bind fun j => cond (Nat.blt n capX) (some fun _ tm h => oSliceA tm h n j.size x lo hi mx) none | _ => none)
    | _ => none
  | .fieldAddr s x f => (X.T s).bind fun i =>
    match i.und with
    | .struct fs => (fs[f]?).bind fun g => (X.T g.type).bind fun j => if j.size = 0 then none else some fun _ tm h => oFaddr tm h g.offset x
    | _ => none
  | .field t x f => (X.T t).bind fun i =>
    match i.und with
    | .struct fs => (fs[f]?).bind fun g => (X.T g.type).map fun j => fun _ tm h => oPart tm h (aggN j) g.offset x
    | _ => none
  | .indexAddr t x i => (X.T t).bind fun ti =>
    match ti.und with
    | .array n e => (X.T e).map fun j => fun _ tm h => oIaddrA tm h n j.size x i
    | .slice e => (X.T e).map fun j => fun _ tm h => oIaddrS tm h j.size x i
    | _ => none
  | .index t x i => (X.T t).bind fun ti =>
    match ti.und with
    | .array n e => (X.T e).map fun j => fun _ tm h => oIndexA tm h n j.size j.agg x i
    | .string => some fun _ tm h => retV (flatRun X.P tm o) h
    | _ => none
  | .lookup t m k ok => (X.T t).bind fun i =>
    match i.und with
    | .map kt e => (X.T e).bind fun j => (zeroOf j).bind fun z => (cmpOf X.T X.stood 12 kt).map fun c => fun _ tm h => oLookup tm h c z m k ok
    | _ => none
  | .extract x i => some fun _ tm h => oExtract tm h x i
  | .typeAssert .. => some fun _ tm h => retV (flatRun X.P tm o) h
  | .range t x => (X.T t).bind fun i => (match i.und with | .string => some fun _ tm h => oRangeStr tm h x | _ => none)
  | .next x true => some fun _ tm h => oNextStr tm h x
  | .call c =>
    match c.callee with
    | .value (.func f) => some fun R tm h => oCallF R tm h f c.args.toList
    | .value f => some fun R tm h => oCallV R tm h f c.args.toList
    | .invoke _ _ => none
    | .builtin b =>
      match b, c.args.toList, c.argTypes.toList with
      | .len, [x], [t] => (X.T t).bind fun i => (match i.und with
        | .slice _ => some fun _ tm h => oLenS tm h x
        | .string => some fun _ tm h => oLenT tm h x
        | .map _ _ => some fun _ tm h => oLenM tm h x
        | .array n _ => some fun _ _ h => some (.int .i64 (.ofNat n), h)
        | .pointer a => (X.T a).bind fun k => (match k.und with | .array n _ => some fun _ _ h => some (.int .i64 (.ofNat n), h) | _ => none)
        | _ => none)
      | .append, [x, y], [t, u] => (X.T t).bind fun i => (X.T u).bind fun k => (match i.und, k.und with
        | .slice e, .slice _ => (X.T e).bind fun j => (zeroOf j).bind fun z => cond (Nat.beq z.cells.size j.size) (some fun _ tm h => oAppend tm h e j.size j.bytes x y) none
        | .slice e, .string => (X.T e).bind fun j => (zeroOf j).bind fun z => cond (Nat.beq z.cells.size j.size) (some fun _ tm h => oAppend tm h e j.size j.bytes x y) none
        | _, _ => none)
      | .copy, [x, y], t :: _ => (X.T t).bind fun i => (match i.und with
        | .slice e => (X.T e).map fun j => fun _ tm h => oCopy tm h j.size x y
        | _ => none)
      | .clear, [x], [t] => (X.T t).bind fun i => (match i.und with
        | .slice e => (X.T e).bind fun j => (zeroOf j).map fun z => fun _ tm h => oClearS tm h z.cells.toList x
        | _ => none)
      | .min, _, _ => some fun _ tm h => retV (flatRun X.P tm o) h
      | .max, _, _ => some fun _ tm h => retV (flatRun X.P tm o) h
      | .unsafeSliceData, [x], _ => some fun _ tm h => oUsd tm h x
      | .unsafeString, [x, n], t :: _ => (X.T t).bind fun i => (match i.und with
        | .pointer e => (X.T e).bind fun j => cond (Nat.beq j.size 1) (some fun _ tm h => oUstr tm h e x n) none
        | _ => none)
      | _, _, _ => none
  | _ => none) : Option OpF).getD noOp

/-! ### regions -/
inductive AOper where
  | set (d : Tmp) (f : OpF)
  | eff (f : OpF)
  | gset (t : Tmp) (w : Bool) (d : Option Tmp) (f : OpF)

noncomputable def compOper (X : Ctx) (ops : Array Oper) (o : Oper) : AOper :=
  match o.guard with
  | none => (match o.dst with | some d => .set d (opF X o) | none => .eff (opF X o))
  | some (j, w) => (match (ops[j]?).bind (·.dst) with | some t => .gset t w o.dst (opF X o) | none => .eff noOp)

noncomputable def compOps (X : Ctx) (ops : Array Oper) : List AOper := ops.toList.map (compOper X ops)

noncomputable def putD (tm : Tr Value) (d : Option Tmp) (v : Value) : Tr Value :=
  match d with
  | none => tm
  | some d => tm.set d v

noncomputable def aoper (R : Rec) (o : AOper) (tm : Tr Value) (h : H) : Option (Tr Value × H) :=
  match o with
  | .set d f => (match f R tm h with | some (v, h) => some (tm.set d v, h) | none => none)
  | .eff f => (match f R tm h with | some (_, h) => some (tm, h) | none => none)
  | .gset t w d f =>
    (match tm.get t with
     | some (.bool b) =>
      (match w, b with
       | true, true => (match f R tm h with | some (v, h) => some (putD tm d v, h) | none => none)
       | false, false => (match f R tm h with | some (v, h) => some (putD tm d v, h) | none => none)
       | _, _ => some (putD tm d undef, h))
     | some _ => some (putD tm d undef, h)
     | none => none)

noncomputable def aops (R : Rec) (l : List AOper) : Tr Value → H → Option (Tr Value × H) :=
  List.rec (motive := fun _ => Tr Value → H → Option (Tr Value × H)) (fun tm h => some (tm, h))
    (fun o _ ih tm h => match aoper R o tm h with
      | some (tm, h) => ih tm h
      | none => none) l

/-! ### regions whose order is open -/
inductive Kind where
  | pure | read | alloc | eff | ins
  deriving DecidableEq

noncomputable def kindOf (X : Ctx) (o : Oper) : Kind :=
  match o.op with
  | .move _ | .assign _ | .pick .. | .build .. | .nilCheck _ | .binOp .. | .unOp .. | .makeInterface .. | .makeFunc .. | .slice .. | .fieldAddr .. | .field .. | .indexAddr .. | .index .. | .extract .. | .typeAssert .. => .pure
  | .alloc _ | .box .. | .buildSlice .. | .makeSlice .. => .alloc
  | .makeMap .. => .alloc
  | .load .. | .lookup .. => .read
  | .insert .. => .ins
  | .convert s d _ => (match X.T s, X.T d with
    | some i, some j => (match i.und, j.und with
      | .slice _, _ => .read
      | .pointer _, _ => .read
      | .unsafePointer, _ => .read
      | .string, .slice _ => .alloc
      | _, _ => .pure)
    | _, _ => .eff)
  | .call c => (match c.callee with
    | .builtin .len => (match c.argTypes.toList with
      | [t] => (match X.T t with | some i => (match i.und with | .map _ _ => .read | _ => .pure) | none => .eff)
      | _ => .eff)
    | .builtin .min => .pure
    | .builtin .max => .pure
    | .builtin .unsafeSliceData => .pure
    | _ => .eff)
  | _ => .eff

/-- more names than there can be -/
noncomputable def big : Nat := 18446744073709551616

/-- what an operation of an open region is taken for -/
inductive DK where
  | pure
  | read (back : Nat)
  | new
  | eff
  | ins (c : Cmp) (m k v : Operand)

structure DO where
  idx : Nat
  looks : List Tmp
  guard : Option (Tmp × Bool)
  dst : Option Tmp
  f : OpF
  kind : DK

/-- what it does -/
inductive DA where
  | put (v : Value)
  | new (v : Value) (o : AObj)
  | ins (r : Nat) (e : ME) (es : List ME)
  | eff (v : Value) (h : H)

/-- the temporaries that it looks at, and no others -/
noncomputable def miniT (tm : Tr Value) (l : List Tmp) : Tr Value :=
  List.rec (motive := fun _ => Tr Value) .nil (fun t _ ih => match tm.get t with
    | some v => ih.set t v
    | none => ih) l

noncomputable def belowF : Nat → Value → Bool
  | 0, _ => false
  | f + 1, v =>
    match v with
    | .bool _ | .int .. | .float .. | .complex .. | .string _ | .pointer none | .map none | .chan none | .nilFunc | .nilIface => true
    | .slice none _ _ => true
    | .pointer (some a) => Nat.blt a.block big
    | .slice (some a) _ _ => Nat.blt a.block big
    | .map (some r) => Nat.blt r big
    | .func (.func _) a b => List.all a.toList (belowF f) && List.all b.toList (belowF f)
    | .iface _ v => belowF f v
    | .agg cs => List.all cs.toList (belowF f)
    | .tuple cs => List.all cs.toList (belowF f)
    | _ => false
noncomputable def belowV (v : Value) : Bool := belowF 20 v

noncomputable def belowO : AObj → Bool
  | .cells cs _ _ _ _ => List.all cs belowV
  | .map [] => true
  | .siter _ _ => true
  | .defer => true
  | _ => false

/-- the new one's name -/
noncomputable def reName (b : Nat) : Value → Option Value
  | .pointer (some a) => if plain a && Nat.beq a.block big && Nat.beq a.off 0 then some (.pointer (some ⟨b, 0, none⟩)) else none
  | .slice (some a) n c => if plain a && Nat.beq a.block big && Nat.beq a.off 0 then some (.slice (some ⟨b, 0, none⟩) n c) else none
  | .map (some r) => if Nat.beq r big then some (.map (some b)) else none
  | _ => none

noncomputable def bare (tr : Tr AObj) : H := ⟨tr, big, big⟩

/-- a value, and nothing else -/
noncomputable def dval (R : Rec) (f : OpF) (mi : Tr Value) (tr : Tr AObj) : Option Value :=
  match f R mi (bare tr) with
  | some (v, h) => if Nat.beq h.next big then some v else none
  | none => none

noncomputable def veqF : Nat → Value → Value → Bool
  | 0, _, _ => false
  | f + 1, x, y =>
    match x, y with
    | .bool a, .bool b => a == b
    | .int j a, .int k b => kEq j k && eqI a b
    | .string a, .string b => a == b
    | .pointer none, .pointer none => true
    | .pointer (some a), .pointer (some b) => addrEq a b
    | .slice none n c, .slice none m d => Nat.beq n m && Nat.beq c d
    | .slice (some a) n c, .slice (some b) m d => addrEq a b && Nat.beq n m && Nat.beq c d
    | .map none, .map none => true
    | .map (some a), .map (some b) => Nat.beq a b
    | .nilFunc, .nilFunc => true
    | .nilIface, .nilIface => true
    | .func (.func a) xs us, .func (.func b) ys vs => Nat.beq a b && veqL (veqF f) xs.toList ys.toList && veqL (veqF f) us.toList vs.toList
    | .iface t a, .iface u b => Nat.beq t u && veqF f a b
    | .agg xs, .agg ys => veqL (veqF f) xs.toList ys.toList
    | .tuple xs, .tuple ys => veqL (veqF f) xs.toList ys.toList
    | _, _ => false
  where
  veqL (p : Value → Value → Bool) : List Value → List Value → Bool
    | [], [] => true
    | x :: xs, y :: ys => p x y && veqL p xs ys
    | _, _ => false

/-- a reading is the same in so many elder states -/
noncomputable def sameBack (R : Rec) (f : OpF) (mi : Tr Value) (v : Value) : List (Tr AObj) → Nat → Bool
  | [], _ => true
  | h :: hs, n =>
    match n with
    | 0 => true
    | n + 1 => match dval R f mi h with
      | some u => veqF 12 v u && sameBack R f mi v hs n
      | none => false

noncomputable def readAt (R : Rec) (f : OpF) (mi : Tr Value) (back : Nat) : List (Tr AObj) → Option Value
  | h :: hs => (match dval R f mi h with
    | some v => if sameBack R f mi v hs back then some v else none
    | none => none)
  | [] => none

noncomputable def dnew (R : Rec) (f : OpF) (mi : Tr Value) (b : Nat) : Option DA :=
  match f R mi (bare .nil) with
  | some (v, h) =>
    (match Nat.beq h.next (Nat.succ big), h.tr.get big, reName b v with
     | true, some o, some v => if belowO o then some (.new v o) else none
     | _, _, _ => none)
  | none => none

noncomputable def dins (c : Cmp) (mi : Tr Value) (h : H) (m k v : Operand) (sid : Nat) : Option DA :=
  match ev mi m, ev mi k, ev mi v with
  | some (.map (some r)), some k, some v =>
    (match mapOf h r with
     | some es => (match findK c k es, flatV k && belowV v with
       | some none, true => some (.ins r { key := k, val := v, sid } es)
       | _, _ => none)
     | none => none)
  | _, _, _ => none

noncomputable def dguard (tm : Tr Value) : Option (Tmp × Bool) → Option Bool
  | none => some true
  | some (t, w) =>
    match tm.get t with
    | some (.bool b) => (match w, b with | true, true => some true | false, false => some true | _, _ => some false)
    | some _ => some false
    | none => none

noncomputable def ddo (R : Rec) (base : Nat) (d : DO) (st : List (Tr AObj)) (mi : Tr Value) (h : H) : Option DA :=
  match d.kind with
  | .pure => (match dval R d.f mi .nil with | some v => some (.put v) | none => none)
  | .read back => (match readAt R d.f mi back st with | some v => some (.put v) | none => none)
  | .new => dnew R d.f mi (Nat.add base d.idx)
  | .eff => (match d.f R mi h with | some (v, h) => if Nat.ble h.next big then some (.eff v h) else none | none => none)
  | .ins c m k v => dins c mi h m k v (Nat.add base d.idx)

noncomputable def dact (R : Rec) (base : Nat) (d : DO) (st : List (Tr AObj)) (tm : Tr Value) (h : H) : Option DA :=
  match dguard tm d.guard with
  | some true => ddo R base d st (miniT tm d.looks) h
  | some false => (match d.kind with | .eff => some (.eff undef h) | _ => some (.put undef))
  | none => none

structure DS where
  st : List (Tr AObj)
  tm : Tr Value
  h : H

noncomputable def dapp (base : Nat) (d : DO) (s : DS) : DA → DS
  | .put v => ⟨s.st, putD s.tm d.dst v, s.h⟩
  | .new v o => ⟨s.st, putD s.tm d.dst v, { s.h with tr := s.h.tr.set (Nat.add base d.idx) o }⟩
  | .ins r e es => ⟨s.st, putD s.tm d.dst undef, { s.h with tr := s.h.tr.set r (.map (e :: es)) }⟩
  | .eff v h => ⟨h.tr :: s.st, putD s.tm d.dst v, h⟩

noncomputable def dsteps (R : Rec) (base : Nat) (l : List DO) : DS → Option DS :=
  List.rec (motive := fun _ => DS → Option DS) (fun s => some s)
    (fun d _ ih s => match dact R base d s.st s.tm s.h with
      | some a => ih (dapp base d s a)
      | none => none) l

/-! the plan of an open region: an order, and what each operation is taken for; checked -/
noncomputable def emask (md : Region.Mode) (o : Oper) : Nat := o.after.toList.foldl (fun s e => if Region.binds md e then s ||| 2 ^ e.on else s) 0

/-- an order: operations behind those that they wait for -/
noncomputable def topoPick (seen : Nat) : List Oper → Nat → (Oper → Nat) → Option Nat
  | [], _, _ => none
  | o :: os, i, em => if !seen.testBit i && Nat.beq (em o ||| seen) seen then some i else topoPick seen os (i + 1) em

noncomputable def topo (em : Oper → Nat) (ops : List Oper) : Nat → (seen : Nat) → List Nat
  | 0, _ => []
  | f + 1, seen => match topoPick seen ops 0 em with
    | some i => i :: topo em ops f (seen ||| 2 ^ i)
    | none => []

/-- does an order keep what each waits for? -/
noncomputable def keepsB (md : Region.Mode) (ops : Array Oper) : List Nat → List Nat → Bool
  | [], _ => true
  | i :: is, seen => (match ops[i]? with
    | some o => o.after.toList.all fun e => !Region.binds md e || seen.contains e.on
    | none => false) && keepsB md ops is (i :: seen)

noncomputable def covers (n : Nat) (l : List Nat) : Bool := (List.range n).all fun i => l.contains i

noncomputable def orderedB (md : Region.Mode) (ops : Array Oper) : Bool :=
  let t := topo (emask md) ops.toList ops.size 0
  keepsB md ops t [] && covers ops.size t

/-- what each waits for, and what that waits for -/
noncomputable def masksGo (ops : Array Oper) : List Nat → List (Nat × Nat) → List (Nat × Nat)
  | [], acc => acc
  | i :: is, acc =>
    match ops[i]? with
    | some o => masksGo ops is ((i, acc.foldl (fun s p => if (emask .any o).testBit p.1 then s ||| p.2 else s) (emask .any o)) :: acc)
    | none => masksGo ops is acc

noncomputable def maskAt (ms : List (Nat × Nat)) (i : Nat) : Nat := match ms.lookup i with | some m => m | none => 0

noncomputable def opTmps (o : Oper) : List Tmp := o.op.operands.toList.filterMap fun | .tmp t => some t | _ => none

/-- what comes ahead of an effect, in an order, and has not come yet -/
noncomputable def neededM (m : Nat) (order : List Nat) (done : List Nat) : List Nat := order.filter fun j => m.testBit j && !done.contains j

noncomputable def lateM (ms : List (Nat × Nat)) (order : List Nat) : List Nat → List Nat → List Nat
  | [], done => done ++ order.filter fun j => !done.contains j
  | e :: es, done => lateM ms order es (done ++ neededM (maskAt ms e) order done ++ [e])

noncomputable def isEff (X : Ctx) (ops : Array Oper) (i : Nat) : Bool := match ops[i]? with | some o => (match kindOf X o with | .eff => true | _ => false) | none => false

/-- elder states in which a reading may happen -/
noncomputable def backOf (m : Nat) : List Nat → Nat
  | [] => 0
  | e :: es => if m.testBit e then 0 else backOf m es + 1

noncomputable def mkDO (X : Ctx) (ops : Array Oper) (ms : List (Nat × Nat)) (effs : List Nat) (i : Nat) : Option DO :=
  match ops[i]? with
  | none => none
  | some o =>
    match (match o.guard with
      | none => some none
      | some (j, w) => (match (ops[j]?).bind (·.dst) with | some t => some (some (t, w)) | none => none) : Option (Option (Tmp × Bool))) with
    | none => none
    | some g =>
      match (match kindOf X o with
        | .pure => some .pure
        | .read => some (.read (backOf (maskAt ms i) effs))
        | .alloc => some .new
        | .eff => some .eff
        | .ins => (match o.op with
          | .insert t m k v => (match X.T t with
            | some ti => (match ti.und with
              | .map kt _ => (match cmpOf X.T X.stood 12 kt with | some c => some (.ins c m k v) | none => none)
              | _ => none)
            | none => none)
          | _ => none) : Option DK) with
      | none => none
      | some k => some { idx := i, looks := opTmps o, guard := g, dst := o.dst, f := opF X o, kind := k }

noncomputable def mkDOs (X : Ctx) (ops : Array Oper) (ms : List (Nat × Nat)) : List Nat → (effs : List Nat) → Option (List DO)
  | [], _ => some []
  | i :: is, effs =>
    match mkDO X ops ms effs i, mkDOs X ops ms is (if isEff X ops i then i :: effs else effs) with
    | some d, some ds => some (d :: ds)
    | _, _ => none

noncomputable def effD (d : DO) : Bool := match d.kind with | .eff => true | _ => false
noncomputable def newD (d : DO) : Bool := match d.kind with | .new => true | _ => false

noncomputable def allLooks (d : DO) : List Tmp := match d.guard with | some (t, _) => t :: d.looks | none => d.looks

/-- the writers of what an operation looks at come ahead of it, or behind it -/
noncomputable def writersB (ops : Array Oper) (ms : List (Nat × Nat)) (d : DO) (prev : List Nat) : Bool :=
  (allLooks d).all fun t => (List.range ops.size).all fun j =>
    (match ops[j]? with | some o => (match o.dst with | some u => !Nat.beq u t | none => true) | none => true) || Nat.beq j d.idx ||
    (if prev.contains j then (maskAt ms d.idx).testBit j else (maskAt ms j).testBit d.idx)

noncomputable def insB (d : DO) (prev : List DO) : Bool :=
  match d.kind with
  | .ins _ m _ _ => (match m with
    | .tmp t => prev.any fun e => newD e && e.guard.isNone && (match e.dst with | some u => Nat.beq u t | none => false)
    | _ => false)
  | _ => true

noncomputable def insD (d : DO) : Bool := match d.kind with | .ins .. => true | _ => false

/-- one after another: prev: those ahead, the last first; effs: the effects among them; grp: those behind the last effect -/
noncomputable def planGo (ops : Array Oper) (ms : List (Nat × Nat)) : List DO → (prev : List Nat) → (effs : List Nat) → (grp : List DO) → Bool
  | [], _, _, _ => true
  | d :: ds, prev, effs, grp =>
    (Nat.blt d.idx ops.size && !prev.contains d.idx && writersB ops ms d prev &&
      (match d.kind with
       | .eff => prev.all (fun p => (maskAt ms d.idx).testBit p) && grp.all fun e => !insD e
       | .read back => (match effs.drop back with | e :: _ => (maskAt ms d.idx).testBit e | [] => true)
       | .ins .. => insB d grp
       | _ => true)) &&
    planGo ops ms ds (d.idx :: prev) (if effD d then d.idx :: effs else effs) (if effD d then [] else d :: grp)

noncomputable def dstsOk : List Oper → List Tmp → Bool
  | [], _ => true
  | o :: os, seen => match o.dst with
    | none => dstsOk os seen
    | some d => !seen.contains d && dstsOk os (d :: seen)

/-- all insertions are into maps of one type -/
noncomputable def oneTy : List Oper → Option TypeId → Bool
  | [], _ => true
  | o :: os, t => match o.op with
    | .insert u _ _ _ => (match t with | some t => Nat.beq u t && oneTy os (some t) | none => oneTy os (some u))
    | _ => oneTy os t

noncomputable def plan (X : Ctx) (ops : Array Oper) : Option (List DO) :=
  let t := topo (emask .any) ops.toList ops.size 0
  let ms := masksGo ops t []
  let order := lateM ms t (t.filter (isEff X ops)) []
  match mkDOs X ops ms order [] with
  | some L =>
    if orderedB .any ops && orderedB .text ops && orderedB .gc ops && dstsOk ops.toList [] && oneTy ops.toList none && planGo ops ms L [] [] [] && covers ops.size order then some L else none
  | none => none

noncomputable def cDraw (X : Ctx) (R : Rec) (ops : Array Oper) (tm : Tr Value) (h : H) : Option (Tr Value × H) :=
  match plan X ops with
  | some L =>
    if Nat.ble (Nat.add h.next ops.size) big then
      (match dsteps R h.next L ⟨[h.tr], tm, { h with next := Nat.add h.next ops.size }⟩ with
       | some s => some (s.tm, s.h)
       | none => none)
    else none
  | none => none

/-! ### code, calls -/
noncomputable def takeMarks (l : List Nat) : H → Option H :=
  List.rec (motive := fun _ => H → Option H) (fun h => some h)
    (fun m _ ih h => match h.tr.get m, Nat.ble h.floor m with
      | some .defer, true => ih { h with tr := h.tr.del m }
      | _, _ => none) l

noncomputable def resAt (X : Ctx) (tm : Tr Value) (h : H) : ResultVar → Option Value
  | .tmp t => tm.get t
  | .cell a t => (match X.T t, tm.get a with
    | some i, some (.pointer (some a)) => (match aggN i with | none => h.cell a | some n => (match h.cellsAt a n with | some l => some (.agg l.toArray) | none => none))
    | _, _ => none)

noncomputable def results (X : Ctx) (tm : Tr Value) (h : H) (l : List ResultVar) : Option (List Value) :=
  List.rec (motive := fun _ => Option (List Value)) (some [])
    (fun r _ ih => match resAt X tm h r, ih with
      | some v, some vs => some (v :: vs)
      | _, _ => none) l

noncomputable def oneOf : List Value → Value
  | [v] => v
  | vs => .tuple vs.toArray

noncomputable def regEnd (fr : Fr) : Option (Tr Value × H) → Option (Ex × Fr × H)
  | some (tm, h) => some (.normal, ⟨tm, fr.marks, fr.round⟩, h)
  | none => none

noncomputable def cRegion (X : Ctx) (R : Rec) (ops : Array Oper) (draw : Bool) (fr : Fr) (h : H) : Option (Ex × Fr × H) :=
  match draw with
  | false => regEnd fr (aops R (compOps X ops) fr.tm h)
  | true => regEnd fr (cDraw X R ops fr.tm h)

noncomputable def cSeq (R : Rec) (b : Code) : Option (Ex × Fr × H) → Option (Ex × Fr × H)
  | some (.normal, fr, h) => R.code b fr h
  | r => r

noncomputable def cCond (R : Rec) (c : Operand) (a b : Code) (fr : Fr) (h : H) : Option (Ex × Fr × H) :=
  match ev fr.tm c with
  | some (.bool true) => R.code a fr h
  | some (.bool false) => R.code b fr h
  | _ => none

noncomputable def cBlock (id : Nat) : Option (Ex × Fr × H) → Option (Ex × Fr × H)
  | some (.exit i, fr, h) => (match Nat.beq i id with | true => some (.normal, fr, h) | false => some (.exit i, fr, h))
  | r => r

/-- behind the function that was ranged over -/
noncomputable def cRangeEnd (l : Nat) (fr : Fr) : Option (Value × H) → Option (Ex × Fr × H)
  | some (_, h) =>
    (match h.tr.get l with
     | some (.loop r) =>
      (match r.state, r.jump with
       | .busy, _ => none
       | _, none => some (.normal, fr, h.put l (.loop { r with state := .exhausted }))
       | _, some .ret => some (.ret, fr, h.put l (.loop { r with state := .exhausted }))
       | _, some (.exit id) => some (.exit id, fr, h.put l (.loop { r with state := .exhausted })))
     | _ => none)
  | none => none

/-- a function that has a body -/
noncomputable def bodied (X : Ctx) : Value → Bool
  | .func (.func g) _ _ => (match X.P.funcs[g]? with | some fn => fn.body.isSome | none => false)
  | _ => false

noncomputable def cRangeIn (X : Ctx) (R : Rec) (f : Value) (ps : List Tmp) (assign body : Code) (fr : Fr) (h : H) (d : Nat) : Option (Ex × Fr × H) :=
  match bodied X f with
  | true => cRangeEnd h.next fr (callVal R f [.func (.yield h.next) #[] #[]]
      (h.new (.loop { state := .ready, jump := none, tm := fr.tm, params := ps, assign, body, defers := d })).2)
  | false => none

noncomputable def cRange (X : Ctx) (R : Rec) (f : Operand) (ps : List Tmp) (assign body : Code) (fr : Fr) (h : H) : Option (Ex × Fr × H) :=
  match ev fr.tm f, fr.round with
  | some f, none => cRangeIn X R f ps assign body ⟨fr.tm, h.next :: fr.marks, none⟩ (h.new .defer).2 h.next
  | some f, some l =>
    (match h.tr.get l with
     | some (.loop r) => cRangeIn X R f ps assign body fr h r.defers
     | _ => none)
  | none, _ => none

noncomputable def codeStep (X : Ctx) (R : Rec) (c : Code) (fr : Fr) (h : H) : Option (Ex × Fr × H) :=
  match c with
  | .skip => some (.normal, fr, h)
  | .region _ ops draw => cRegion X R ops draw fr h
  | .seq a b => cSeq R b (R.code a fr h)
  | .cond c a b => cCond R c a b fr h
  | .block id b => cBlock id (R.code b fr h)
  | .loop b => cSeq R (.loop b) (R.code b fr h)
  | .scope b => R.code b fr h
  | .exit id => some (.exit id, fr, h)
  | .ret => some (.ret, fr, h)
  | .rangeFunc f params assign body => cRange X R f params.toList assign body fr h
  | _ => none

noncomputable def callRes (X : Ctx) (res : List ResultVar) (fr : Fr) (h : H) : Option (Value × H) :=
  match results X fr.tm h res with
  | some vs => some (oneOf vs, h)
  | none => none

noncomputable def callEnd (X : Ctx) (res : List ResultVar) : Option (Ex × Fr × H) → Option (Value × H)
  | some (.exit _, _, _) => none
  | some (_, fr, h) =>
    (match takeMarks fr.marks h with
     | some h => callRes X res fr h
     | none => none)
  | none => none

noncomputable def callFn (X : Ctx) (R : Rec) (fn : Option Func) (args : List Value) (h : H) : Option (Value × H) :=
  match fn with
  | some fn =>
    (match fn.body with
     | some c => callEnd X fn.results.toList (R.code c ⟨argsIn args 0 .nil, [], none⟩ h)
     | none => none)
  | none => none

noncomputable def callStep (X : Ctx) (R : Rec) (f : FuncId) (args : List Value) (h : H) : Option (Value × H) :=
  match X.summ f with
  | some g => g R args h
  | none => callFn X R (X.P.funcs[f]?) args h

noncomputable def step (X : Ctx) (R : Rec) : Rec where
  code := codeStep X R
  call := callStep X R

noncomputable def eval (X : Ctx) (n : Nat) : Rec :=
  Nat.rec (motive := fun _ => Rec) { code := fun _ _ _ => none, call := fun _ _ _ => none } (fun _ ih => step X ih) n

end Go.Ae
end

section
/-
  AE: relations between the abstract and the model's states; first laws.
-/
namespace Go.Ae

/-! ### unfolding of the raw recursors -/
theorem beq0 {n : Nat} (h : ¬ n = 0) : Nat.beq n 0 = false := by
  cases n with
  | zero => exact absurd rfl h
  | succ n => rfl

section raw
variable {α : Type}
@[simp] theorem Tr.get_nil (k : Nat) : (Tr.nil : Tr α).get k = none := rfl
theorem Tr.get_zero (v : Option α) (l r : Tr α) : (Tr.node v l r).get 0 = v := rfl
theorem Tr.get_succ (v : Option α) (l r : Tr α) (k : Nat) : (Tr.node v l r).get (k + 1) = if k % 2 = 0 then l.get (k / 2) else r.get (k / 2) := by
  show Bool.rec (motive := fun _ => Option α) (r.get (k / 2)) (l.get (k / 2)) (Nat.beq (k % 2) 0) = _
  by_cases h : k % 2 = 0
  · rw [if_pos h, h]; rfl
  · rw [if_neg h, beq0 h]

theorem Tr.setF_nil_zero (v : Option α) (f : Nat) : Tr.setF v (f + 1) .nil 0 = .node v .nil .nil := rfl
theorem Tr.setF_nil_succ (v : Option α) (f k : Nat) : Tr.setF v (f + 1) .nil (k + 1) =
    if k % 2 = 0 then .node none (Tr.setF v f .nil (k / 2)) .nil else .node none .nil (Tr.setF v f .nil (k / 2)) := by
  show Bool.rec (motive := fun _ => Tr α) (.node none .nil (Tr.setF v f .nil (k / 2))) (.node none (Tr.setF v f .nil (k / 2)) .nil) (Nat.beq (k % 2) 0) = _
  by_cases h : k % 2 = 0
  · rw [if_pos h, h]; rfl
  · rw [if_neg h, beq0 h]
theorem Tr.setF_node_zero (v : Option α) (f : Nat) (x : Option α) (l r : Tr α) : Tr.setF v (f + 1) (.node x l r) 0 = .node v l r := rfl
theorem Tr.setF_node_succ (v : Option α) (f k : Nat) (x : Option α) (l r : Tr α) : Tr.setF v (f + 1) (.node x l r) (k + 1) =
    if k % 2 = 0 then .node x (Tr.setF v f l (k / 2)) r else .node x l (Tr.setF v f r (k / 2)) := by
  show Bool.rec (motive := fun _ => Tr α) (.node x l (Tr.setF v f r (k / 2))) (.node x (Tr.setF v f l (k / 2)) r) (Nat.beq (k % 2) 0) = _
  by_cases h : k % 2 = 0
  · rw [if_pos h, h]; rfl
  · rw [if_neg h, beq0 h]

theorem Tr.get_setF (v : Option α) : ∀ (f k : Nat) (t : Tr α) (j : Nat), k < f → (Tr.setF v f t k).get j = if j = k then v else t.get j := by
  intro f
  induction f with
  | zero => intro k t j h; omega
  | succ f ih =>
    intro k t j h
    cases k with
    | zero =>
      cases t with
      | nil =>
        rw [Tr.setF_nil_zero]
        cases j with
        | zero => rfl
        | succ j => rw [Tr.get_succ]; simp
      | node x l r =>
        rw [Tr.setF_node_zero]
        cases j with
        | zero => rfl
        | succ j => rw [Tr.get_succ, Tr.get_succ]; simp
    | succ k =>
      have hk : k / 2 < f := by omega
      cases t with
      | nil =>
        rw [Tr.setF_nil_succ]
        by_cases hp : k % 2 = 0
        · rw [if_pos hp]
          cases j with
          | zero => rw [Tr.get_zero]; simp
          | succ j =>
            rw [Tr.get_succ]
            by_cases hq : j % 2 = 0
            · rw [if_pos hq, ih _ _ _ hk]
              have : (j / 2 = k / 2) ↔ (j + 1 = k + 1) := by omega
              simp only [this, Tr.get_nil]
            · rw [if_neg hq]
              have : ¬ (j + 1 = k + 1) := by omega
              rw [if_neg this]; try rfl
        · rw [if_neg hp]
          cases j with
          | zero => rw [Tr.get_zero]; simp
          | succ j =>
            rw [Tr.get_succ]
            by_cases hq : j % 2 = 0
            · rw [if_pos hq]
              have : ¬ (j + 1 = k + 1) := by omega
              rw [if_neg this]; try rfl
            · rw [if_neg hq, ih _ _ _ hk]
              have : (j / 2 = k / 2) ↔ (j + 1 = k + 1) := by omega
              simp only [this, Tr.get_nil]
      | node x l r =>
        rw [Tr.setF_node_succ]
        by_cases hp : k % 2 = 0
        · rw [if_pos hp]
          cases j with
          | zero => rw [Tr.get_zero, Tr.get_zero]; simp
          | succ j =>
            rw [Tr.get_succ, Tr.get_succ]
            by_cases hq : j % 2 = 0
            · rw [if_pos hq, if_pos hq, ih _ _ _ hk]
              have : (j / 2 = k / 2) ↔ (j + 1 = k + 1) := by omega
              simp only [this]
            · rw [if_neg hq, if_neg hq]
              have : ¬ (j + 1 = k + 1) := by omega
              rw [if_neg this]; try rfl
        · rw [if_neg hp]
          cases j with
          | zero => rw [Tr.get_zero, Tr.get_zero]; simp
          | succ j =>
            rw [Tr.get_succ, Tr.get_succ]
            by_cases hq : j % 2 = 0
            · rw [if_pos hq, if_pos hq]
              have : ¬ (j + 1 = k + 1) := by omega
              rw [if_neg this]; try rfl
            · rw [if_neg hq, if_neg hq, ih _ _ _ hk]
              have : (j / 2 = k / 2) ↔ (j + 1 = k + 1) := by omega
              simp only [this]

theorem Tr.get_set (t : Tr α) (k j : Nat) (v : α) : (t.set k v).get j = if j = k then some v else t.get j := Tr.get_setF _ _ _ _ _ (Nat.lt_succ_self k)
theorem Tr.get_del (t : Tr α) (k j : Nat) : (t.del k).get j = if j = k then none else t.get j := Tr.get_setF _ _ _ _ _ (Nat.lt_succ_self k)

@[simp] theorem nth_nil (n : Nat) : nth ([] : List α) n = none := rfl
@[simp] theorem nth_zero (x : α) (xs : List α) : nth (x :: xs) 0 = some x := rfl
@[simp] theorem nth_succ (x : α) (xs : List α) (n : Nat) : nth (x :: xs) (n + 1) = nth xs n := rfl
theorem nth_eq (l : List α) : ∀ n, nth l n = l[n]? := by
  induction l with
  | nil => intro n; simp
  | cons x xs ih => intro n; cases n with
    | zero => simp
    | succ n => simp [ih]

@[simp] theorem takeX_zero (l : List α) : takeX l 0 = some [] := rfl
@[simp] theorem takeX_nil (n : Nat) : takeX ([] : List α) (n + 1) = none := rfl
theorem takeX_cons (x : α) (xs : List α) (n : Nat) : takeX (x :: xs) (n + 1) = (takeX xs n).map (x :: ·) := by
  show Option.rec (motive := fun _ => Option (List α)) none (fun r => some (x :: r)) (takeX xs n) = _
  cases takeX xs n <;> rfl
theorem takeX_spec : ∀ (n : Nat) (l r : List α), takeX l n = some r ↔ (n ≤ l.length ∧ r = l.take n) := by
  intro n
  induction n with
  | zero => intro l r; simp [eq_comm]
  | succ n ih =>
    intro l r
    cases l with
    | nil => simp
    | cons x xs =>
      rw [takeX_cons, Option.map_eq_some_iff]
      constructor
      · rintro ⟨r', h, rfl⟩
        obtain ⟨h1, rfl⟩ := (ih xs r').1 h
        exact ⟨by simpa using h1, by simp⟩
      · rintro ⟨h1, rfl⟩
        exact ⟨xs.take n, (ih xs _).2 ⟨by simpa using h1, rfl⟩, by simp⟩

theorem cut_zero (l : List α) (n : Nat) : cut l 0 n = takeX l n := rfl
theorem cut_nil (o n : Nat) : cut ([] : List α) (o + 1) n = none := rfl
theorem cut_cons (x : α) (xs : List α) (o n : Nat) : cut (x :: xs) (o + 1) n = cut xs o n := rfl
theorem cut_spec : ∀ (o : Nat) (l : List α) (n : Nat) (r : List α), cut l o n = some r → (o + n ≤ l.length ∨ (o ≤ l.length ∧ n = 0)) ∧ r = (l.drop o).take n := by
  intro o
  induction o with
  | zero => intro l n r h; rw [cut_zero, takeX_spec] at h; exact ⟨.inl (by omega), by simpa using h.2⟩
  | succ o ih =>
    intro l n r h
    cases l with
    | nil => cases h
    | cons x xs =>
      rw [cut_cons] at h
      obtain ⟨h1, h2⟩ := ih xs n r h
      exact ⟨by simp only [List.length_cons]; omega, by simpa using h2⟩
theorem cut_len {o n : Nat} {l r : List α} (h : cut l o n = some r) : r.length = n ∧ o + n ≤ l.length := by
  obtain ⟨h1, rfl⟩ := cut_spec o l n r h
  constructor
  · rw [List.length_take, List.length_drop]; omega
  · omega
theorem cut_nth {o n : Nat} {l r : List α} (h : cut l o n = some r) (i : Nat) (hi : i < n) : r[i]? = l[o + i]? := by
  obtain ⟨h1, rfl⟩ := cut_spec o l n r h
  rw [List.getElem?_take_of_lt hi, List.getElem?_drop]

theorem layAt0_nil (l : List α) : layAt0 l [] = some l := rfl
theorem layAt0_nil_cons (v : α) (vs : List α) : layAt0 [] (v :: vs) = none := rfl
theorem layAt0_cons (x : α) (l : List α) (v : α) (vs : List α) : layAt0 (x :: l) (v :: vs) = (layAt0 l vs).map (v :: ·) := by
  show Option.rec (motive := fun _ => Option (List α)) none (fun r => some (v :: r)) (layAt0 l vs) = _
  cases layAt0 l vs <;> rfl
theorem layAt_zero (l vs : List α) : layAt l 0 vs = layAt0 l vs := rfl
theorem layAt_nil (o : Nat) (vs : List α) : layAt [] (o + 1) vs = none := rfl
theorem layAt_cons (x : α) (l : List α) (o : Nat) (vs : List α) : layAt (x :: l) (o + 1) vs = (layAt l o vs).map (x :: ·) := by
  show Option.rec (motive := fun _ => Option (List α)) none (fun r => some (x :: r)) (layAt l o vs) = _
  cases layAt l o vs <;> rfl
theorem layAt0_spec : ∀ (vs l r : List α), layAt0 l vs = some r → vs.length ≤ l.length ∧ r = vs ++ l.drop vs.length := by
  intro vs
  induction vs with
  | nil => intro l r h; rw [layAt0_nil] at h; cases h; simp
  | cons v vs ih =>
    intro l r h
    cases l with
    | nil => cases h
    | cons x l =>
      rw [layAt0_cons, Option.map_eq_some_iff] at h
      obtain ⟨r', h, rfl⟩ := h
      obtain ⟨h1, rfl⟩ := ih l r' h
      exact ⟨by simpa using h1, by simp⟩
theorem layAt_spec : ∀ (o : Nat) (l vs r : List α), layAt l o vs = some r → o + vs.length ≤ l.length ∧ r = l.take o ++ vs ++ l.drop (o + vs.length) := by
  intro o
  induction o with
  | zero => intro l vs r h; rw [layAt_zero] at h; obtain ⟨h1, rfl⟩ := layAt0_spec _ _ _ h; exact ⟨by omega, by simp⟩
  | succ o ih =>
    intro l vs r h
    cases l with
    | nil => cases h
    | cons x l =>
      rw [layAt_cons, Option.map_eq_some_iff] at h
      obtain ⟨r', h, rfl⟩ := h
      obtain ⟨h1, rfl⟩ := ih l vs r' h
      refine ⟨by simp only [List.length_cons]; omega, ?_⟩
      rw [show o + 1 + vs.length = (o + vs.length) + 1 from by omega]
      simp
theorem layAt_len {o : Nat} {l vs r : List α} (h : layAt l o vs = some r) : r.length = l.length := by
  obtain ⟨h1, rfl⟩ := layAt_spec o l vs r h
  simp only [List.length_append, List.length_take, List.length_drop]
  omega
theorem layAt_nth {o : Nat} {l vs r : List α} (h : layAt l o vs = some r) (i : Nat) :
    r[i]? = if i < o then l[i]? else if i < o + vs.length then vs[i - o]? else l[i]? := by
  obtain ⟨h1, rfl⟩ := layAt_spec o l vs r h
  have hlo : (l.take o).length = o := by rw [List.length_take]; omega
  by_cases a : i < o
  · rw [if_pos a, List.append_assoc, List.getElem?_append_left (by omega), List.getElem?_take_of_lt a]
  · rw [if_neg a, List.append_assoc, List.getElem?_append_right (by omega), hlo]
    by_cases b : i < o + vs.length
    · rw [if_pos b, List.getElem?_append_left (by omega)]
    · rw [if_neg b, List.getElem?_append_right (by omega), List.getElem?_drop]
      congr 1; omega

theorem lenR_eq (l : List α) : lenR l = l.length := by
  induction l with
  | nil => rfl
  | cons x xs ih => show Nat.succ (lenR xs) = _; rw [ih]; rfl
theorem appR_eq (l r : List α) : appR l r = l ++ r := by
  induction l with
  | nil => rfl
  | cons x xs ih => show x :: appR xs r = _; rw [ih]; rfl
end raw

theorem evs_nil (tm : Tr Value) : evs tm [] = some [] := rfl
theorem evs_cons (tm : Tr Value) (x : Operand) (xs : List Operand) (vs : List Value) :
    evs tm (x :: xs) = some vs ↔ ∃ v us, ev tm x = some v ∧ evs tm xs = some us ∧ vs = v :: us := by
  show Option.rec (motive := fun _ => Option (List Value)) none (fun v => Option.rec (motive := fun _ => Option (List Value)) none (fun vs => some (v :: vs)) (evs tm xs)) (ev tm x) = _ ↔ _
  cases h1 : ev tm x with
  | none => simp
  | some v =>
    cases h2 : evs tm xs with
    | none => simp
    | some us => simp [eq_comm]

end Go.Ae
end

section
/-
  AE: how abstract values, objects, heaps read in a world.
-/
namespace Go.Ae

structure RB where
  blk : Nat
  sh : Nat
  en : Nat
  es : Nat

abbrev Ren := Nat → Option RB
def Ren.le (ρ ρ' : Ren) : Prop := ∀ b r, ρ b = some r → ρ' b = some r
theorem Ren.le_refl (ρ : Ren) : ρ.le ρ := fun _ _ h => h
theorem Ren.le_trans {a b c : Ren} (h : a.le b) (h' : b.le c) : a.le c := fun _ _ x => h' _ _ (h _ _ x)

def ARel (ρ : Ren) (a a' : Addr) : Prop := a.spot = none ∧ ∃ r, ρ a.block = some r ∧ a' = ⟨r.blk, r.sh + a.off, none⟩

def oneCell : Value → Bool
  | .agg _ | .tuple _ => false
  | _ => true

mutual
inductive VRel (ρ : Ren) : Value → Value → Prop where
  | bool (b : Bool) : VRel ρ (.bool b) (.bool b)
  | int (k : IntKind) (n : Int) : VRel ρ (.int k n) (.int k n)
  | float (k : FloatKind) (n : Nat) : VRel ρ (.float k n) (.float k n)
  | complex (k : FloatKind) (n m : Nat) : VRel ρ (.complex k n m) (.complex k n m)
  | string (s : ByteArray) : VRel ρ (.string s) (.string s)
  | ptrN : VRel ρ (.pointer none) (.pointer none)
  | ptr (a a' : Addr) : ARel ρ a a' → VRel ρ (.pointer (some a)) (.pointer (some a'))
  | sliceN (n c : Nat) : VRel ρ (.slice none n c) (.slice none n c)
  | slice (a a' : Addr) (n c : Nat) : ARel ρ a a' → c < capX → VRel ρ (.slice (some a) n c) (.slice (some a') n c)
  | sliceX (a a' : Addr) (n c' : Nat) (r : RB) : ρ a.block = some r → ARel ρ a a' → n ≤ c' → c' < capX → 0 < r.es → r.sh + a.off + c' * r.es = r.en → VRel ρ (.slice (some a) n capX) (.slice (some a') n c')
  | sliceE (a a' : Addr) (c : Nat) : c = capX ∨ c = 0 → VRel ρ (.slice (some a) 0 c) (.slice (some a') 0 0)
  | mapN : VRel ρ (.map none) (.map none)
  | map (m : Nat) (r : RB) : ρ m = some r → VRel ρ (.map (some m)) (.map (some r.blk))
  | chanN : VRel ρ (.chan none) (.chan none)
  | stamp (s : Nat) (r : RB) : ρ s = some r → VRel ρ (.chan (some s)) (.int .i64 (.ofNat r.blk))
  | func (f : FuncId) (a a' c c' : Array Value) : VsRel ρ a.toList a'.toList → VsRel ρ c.toList c'.toList → VRel ρ (.func (.func f) a c) (.func (.func f) a' c')
  | yield (l : Nat) (r : RB) (a a' c c' : Array Value) : ρ l = some r → VsRel ρ a.toList a'.toList → VsRel ρ c.toList c'.toList → VRel ρ (.func (.yield l) a c) (.func (.yield r.blk) a' c')
  | nilFunc : VRel ρ .nilFunc .nilFunc
  | iface (t : TypeId) (v v' : Value) : VRel ρ v v' → VRel ρ (.iface t v) (.iface t v')
  | nilIface : VRel ρ .nilIface .nilIface
  | agg (c c' : Array Value) : VsRel ρ c.toList c'.toList → VRel ρ (.agg c) (.agg c')
  | tuple (c c' : Array Value) : VsRel ρ c.toList c'.toList → VRel ρ (.tuple c) (.tuple c')
inductive VsRel (ρ : Ren) : List Value → List Value → Prop where
  | nil : VsRel ρ [] []
  | cons (v v' : Value) (vs vs' : List Value) : VRel ρ v v' → VsRel ρ vs vs' → VsRel ρ (v :: vs) (v' :: vs')
end

theorem ARel.mono {ρ ρ' : Ren} (h : ρ.le ρ') {a a' : Addr} : ARel ρ a a' → ARel ρ' a a'
  | ⟨h1, r, h2, h3⟩ => ⟨h1, r, h _ _ h2, h3⟩

mutual
theorem VRel.mono {ρ ρ' : Ren} (h : ρ.le ρ') {v v' : Value} : VRel ρ v v' → VRel ρ' v v'
  | .bool b => .bool b
  | .int k n => .int k n
  | .float k n => .float k n
  | .complex k n m => .complex k n m
  | .string s => .string s
  | .ptrN => .ptrN
  | .ptr a a' x => .ptr a a' (x.mono h)
  | .sliceN n c => .sliceN n c
  | .slice a a' n c x y => .slice a a' n c (x.mono h) y
  | .sliceX a a' n c' r x y z q u t => .sliceX a a' n c' r (h _ _ x) (y.mono h) z q u t
  | .sliceE a a' c x => .sliceE a a' c x
  | .mapN => .mapN
  | .map m r x => .map m r (h _ _ x)
  | .chanN => .chanN
  | .stamp s r x => .stamp s r (h _ _ x)
  | .func f a a' c c' x y => .func f a a' c c' (x.mono h) (y.mono h)
  | .yield l r a a' c c' z x y => .yield l r a a' c c' (h _ _ z) (x.mono h) (y.mono h)
  | .nilFunc => .nilFunc
  | .iface t v v' x => .iface t v v' (x.mono h)
  | .nilIface => .nilIface
  | .agg c c' x => .agg c c' (x.mono h)
  | .tuple c c' x => .tuple c c' (x.mono h)
theorem VsRel.mono {ρ ρ' : Ren} (h : ρ.le ρ') {v v' : List Value} : VsRel ρ v v' → VsRel ρ' v v'
  | .nil => .nil
  | .cons v v' vs vs' x y => .cons v v' vs vs' (x.mono h) (y.mono h)
end

theorem VsRel.length {ρ : Ren} : ∀ {l l' : List Value}, VsRel ρ l l' → l'.length = l.length
  | _, _, .nil => rfl
  | _, _, .cons _ _ _ _ _ y => by simp [y.length]

theorem VsRel.at {ρ : Ren} : ∀ {l l' : List Value}, VsRel ρ l l' → ∀ (i : Nat) (v : Value), l[i]? = some v → ∃ v', l'[i]? = some v' ∧ VRel ρ v v'
  | _, _, .nil, i, v, h => by simp at h
  | _, _, .cons v v' vs vs' x y, 0, u, h => by simp at h; subst h; exact ⟨v', by simp, x⟩
  | _, _, .cons v v' vs vs' x y, i + 1, u, h => by simp at h; simpa using y.at i u h

theorem VsRel.of_at {ρ : Ren} : ∀ {l l' : List Value}, l'.length = l.length → (∀ (i : Nat) (v : Value), l[i]? = some v → ∃ v', l'[i]? = some v' ∧ VRel ρ v v') → VsRel ρ l l'
  | [], [], _, _ => .nil
  | [], _ :: _, h, _ => by simp at h
  | _ :: _, [], h, _ => by simp at h
  | v :: vs, v' :: vs', h, f => by
    obtain ⟨u, h1, h2⟩ := f 0 v (by simp)
    simp at h1; subst h1
    exact .cons _ _ _ _ h2 (VsRel.of_at (by simpa using h) fun i x hx => by simpa using f (i + 1) x (by simpa using hx))

theorem VsRel.append {ρ : Ren} : ∀ {l l' m m' : List Value}, VsRel ρ l l' → VsRel ρ m m' → VsRel ρ (l ++ m) (l' ++ m')
  | _, _, _, _, .nil, h => h
  | _, _, _, _, .cons v v' vs vs' x y, h => .cons _ _ _ _ x (y.append h)

theorem VsRel.drop {ρ : Ren} : ∀ {l l' : List Value} (n : Nat), VsRel ρ l l' → VsRel ρ (l.drop n) (l'.drop n)
  | _, _, 0, h => by simpa using h
  | _, _, _ + 1, .nil => .nil
  | _, _, n + 1, .cons _ _ _ _ _ y => by simpa using y.drop n
theorem VsRel.take {ρ : Ren} : ∀ {l l' : List Value} (n : Nat), VsRel ρ l l' → VsRel ρ (l.take n) (l'.take n)
  | _, _, 0, _ => by simpa using VsRel.nil
  | _, _, _ + 1, .nil => .nil
  | _, _, n + 1, .cons _ _ _ _ x y => by simpa using .cons _ _ _ _ x (y.take n)

/-- values without an address read as themselves -/
theorem flatF_bool {f : Nat} : ∀ {l : List Value}, (∀ v, flatF f v = true → ∀ ρ v', VRel ρ v v' → v' = v) → List.all l (flatF f) = true → ∀ ρ l', VsRel ρ l l' → l' = l
  | [], _, _, ρ, _, .nil => rfl
  | v :: vs, ih, h, ρ, _, .cons _ v' _ vs' x y => by
    simp only [List.all_cons, Bool.and_eq_true] at h
    rw [ih v h.1 ρ v' x, flatF_bool ih h.2 ρ vs' y]

theorem flatF_eq : ∀ (f : Nat) (v : Value), flatF f v = true → ∀ ρ v', VRel ρ v v' → v' = v := by
  intro f
  induction f with
  | zero => intro v h; simp [flatF] at h
  | succ f ih =>
    intro v h ρ v' r
    cases r with
    | bool | int | float | complex | string | ptrN | sliceN | mapN | chanN | nilFunc | nilIface => rfl
    | ptr a a' x => simp [flatF] at h
    | slice a a' n c x y => simp [flatF] at h
    | sliceX => simp [flatF] at h
    | sliceE => simp [flatF] at h
    | map => simp [flatF] at h
    | stamp => simp [flatF] at h
    | yield => simp [flatF] at h
    | func g a a' c c' x y =>
      simp only [flatF, Bool.and_eq_true] at h
      have h1 := flatF_bool ih h.1 ρ _ x
      have h2 := flatF_bool ih h.2 ρ _ y
      rw [Array.toList_inj.1 h1, Array.toList_inj.1 h2]
    | iface t v v' x => simp only [flatF] at h; rw [ih v h ρ v' x]
    | agg c c' x => simp only [flatF] at h; rw [Array.toList_inj.1 (flatF_bool ih h ρ _ x)]
    | tuple c c' x => simp only [flatF] at h; rw [Array.toList_inj.1 (flatF_bool ih h ρ _ x)]

theorem flatV_eq {v : Value} (h : flatV v = true) {ρ : Ren} {v' : Value} (r : VRel ρ v v') : v' = v := flatF_eq 20 v h ρ v' r

theorem flatL_refl {f : Nat} (ρ : Ren) (ih : ∀ v, flatF f v = true → VRel ρ v v) : ∀ {l : List Value}, List.all l (flatF f) = true → VsRel ρ l l
  | [], _ => .nil
  | v :: vs, h => by
    simp only [List.all_cons, Bool.and_eq_true] at h
    exact .cons _ _ _ _ (ih v h.1) (flatL_refl ρ ih h.2)

theorem flatF_refl (ρ : Ren) : ∀ (f : Nat) (v : Value), flatF f v = true → VRel ρ v v := by
  intro f
  induction f with
  | zero => intro v h; simp [flatF] at h
  | succ f ih =>
    intro v h
    cases v with
    | bool b => exact .bool b
    | int k n => exact .int k n
    | float k n => exact .float k n
    | complex k n m => exact .complex k n m
    | string s => exact .string s
    | pointer a => cases a with
      | none => exact .ptrN
      | some a => simp [flatF] at h
    | slice a n c => cases a with
      | none => exact .sliceN n c
      | some a => simp [flatF] at h
    | map m => cases m with
      | none => exact .mapN
      | some m => simp [flatF] at h
    | chan m => cases m with
      | none => exact .chanN
      | some m => simp [flatF] at h
    | func fn a c => cases fn with
      | func g =>
        simp only [flatF, Bool.and_eq_true] at h
        exact .func g a a c c (flatL_refl ρ ih h.1) (flatL_refl ρ ih h.2)
      | _ => simp [flatF] at h
    | nilFunc => exact .nilFunc
    | iface t v => simp only [flatF] at h; exact .iface t v v (ih v h)
    | nilIface => exact .nilIface
    | agg c => simp only [flatF] at h; exact .agg c c (flatL_refl ρ ih h)
    | tuple c => simp only [flatF] at h; exact .tuple c c (flatL_refl ρ ih h)

theorem flatV_refl {v : Value} (h : flatV v = true) (ρ : Ren) : VRel ρ v v := flatF_refl ρ 20 v h

theorem VRel.oneCell {ρ : Ren} {v v' : Value} (r : VRel ρ v v') : oneCell v' = oneCell v := by cases r <;> rfl

theorem VRel.cells {ρ : Ren} {v v' : Value} (r : VRel ρ v v') : VsRel ρ (asList v) v'.cells.toList := by
  cases r with
  | agg c c' x => exact x
  | _ => exact .cons _ _ _ _ (by first | exact .bool _ | exact .int _ _ | exact .float _ _ | exact .complex _ _ _ | exact .string _ | exact .ptrN | exact .ptr _ _ ‹_› | exact .sliceN _ _ | exact .slice _ _ _ _ ‹_› ‹_› | exact .sliceX _ _ _ _ _ ‹_› ‹_› ‹_› ‹_› ‹_› ‹_› | exact .sliceE _ _ _ ‹_› | exact .mapN | exact .map _ _ ‹_› | exact .chanN | exact .stamp _ _ ‹_› | exact .func _ _ _ _ _ ‹_› ‹_› | exact .yield _ _ _ _ _ _ ‹_› ‹_› ‹_› | exact .nilFunc | exact .iface _ _ _ ‹_› | exact .nilIface | exact .tuple _ _ ‹_›) .nil

/-! ### temporaries -/
def TmRel (ρ : Ren) (tm : Tr Value) (a : Array Value) : Prop := ∀ t v, tm.get t = some v → VRel ρ v (a.getD t undef)

theorem TmRel.mono {ρ ρ' : Ren} (h : ρ.le ρ') {tm : Tr Value} {a : Array Value} (x : TmRel ρ tm a) : TmRel ρ' tm a := fun t v e => (x t v e).mono h

theorem TmRel.set {ρ : Ren} {tm : Tr Value} {a : Array Value} (x : TmRel ρ tm a) {d : Nat} (hd : d < a.size) {v v' : Value} (r : VRel ρ v v') :
    TmRel ρ (tm.set d v) (a.setIfInBounds d v') := by
  intro t u h
  rw [Tr.get_set] at h
  by_cases e : t = d
  · subst e
    rw [if_pos rfl] at h; cases h
    simpa [Array.getD_eq_getD_getElem?, hd] using r
  · rw [if_neg e] at h
    have := x t u h
    have he : (a.setIfInBounds d v').getD t undef = a.getD t undef := by
      simp [Array.getD_eq_getD_getElem?, Array.getElem?_setIfInBounds_ne (Ne.symm e)]
    rw [he]; exact this

/-! ### objects -/
structure ERel (ρ : Ren) (e : ME) (e' : MapEntry) : Prop where
  key : VRel ρ e.key e'.key
  val : VRel ρ e.val e'.val
  sid : ∃ r, ρ e.sid = some r ∧ r.blk = e'.born

inductive EsRel (ρ : Ren) : List ME → List MapEntry → Prop where
  | nil : EsRel ρ [] []
  | cons {e e' es es'} : ERel ρ e e' → EsRel ρ es es' → EsRel ρ (e :: es) (e' :: es')

structure MapRel (ρ : Ren) (es : List ME) (ces : Array MapEntry) (clock : Nat) : Prop where
  perm : ∃ l, List.Perm l ces.toList ∧ EsRel ρ es l
  nodup : (ces.toList.map (·.born)).Nodup
  lt : ∀ e ∈ ces.toList, e.born < clock

def jmpCode : Jmp → Code
  | .ret => .ret
  | .exit id => .exit id

/-- an operand's constants bear no address, its variables are there -/
noncomputable def okOpd (G : Nat) : Operand → Bool
  | .const v => flatV v
  | .global g => Nat.blt g G
  | _ => true

noncomputable def okOper (G n : Nat) (o : Oper) : Bool :=
  (match o.dst with | some d => Nat.blt d n | none => true) && o.op.operands.toList.all (okOpd G)

/-- what a code writes lies below a bound, its operands are fit -/
noncomputable def okCode (G n : Nat) : Code → Bool
  | .region _ ops _ => ops.toList.all (okOper G n)
  | .seq a b => okCode G n a && okCode G n b
  | .cond c a b => okOpd G c && okCode G n a && okCode G n b
  | .block _ b => okCode G n b
  | .loop b => okCode G n b
  | .scope b => okCode G n b
  | .rangeFunc f ps a b => okOpd G f && (ps.toList.all fun p => Nat.blt p n) && okCode G n a && okCode G n b
  | _ => true

structure LoopRel (G : Nat) (ρ : Ren) (l : ALoop) (l' : Loop) : Prop where
  state : l'.state = l.state
  jump : l'.pending = l.jump.map jmpCode
  tm : TmRel ρ l.tm l'.tmps
  params : l'.params.toList = l.params
  assign : l'.assign = l.assign
  body : l'.body = l.body
  defers : ∃ r, ρ l.defers = some r ∧ r.blk = l'.defers
  pOk : ∀ p ∈ l.params, p < l'.tmps.size
  aOk : okCode G l'.tmps.size l.assign = true
  bOk : okCode G l'.tmps.size l.body = true

structure CellsRel (ρ : Ren) (cs : List Value) (fz : Nat) (exact : Bool) (g : Nat) (r : RB) (c : Array Value) (fr : Nat × Nat) : Prop where
  at_ : ∀ i v, cs[i]? = some v → ∃ v', c[r.sh + i]? = some v' ∧ VRel ρ v v'
  size : r.sh + cs.length ≤ c.size
  ex : exact = true → c.size = cs.length ∧ r.sh = 0
  en : r.en ≤ c.size
  es : r.es = g
  fz : fr.1 = fr.2 ∨ fr.2 ≤ r.sh + fz

inductive ORel (G : Nat) (ρ : Ren) (r : RB) : AObj → Obj → Prop where
  | cells {cs elem fz x g c fr} : CellsRel ρ cs fz x g r c fr → ORel G ρ r (.cells cs elem fz x g) (.cells c elem fr)
  | map {es ces clock} : MapRel ρ es ces clock → ORel G ρ r (.map es) (.map ces clock)
  | siter {s pos} : r.sh = 0 → ORel G ρ r (.siter s pos) (.stringIter s pos)
  | loop {l l'} : LoopRel G ρ l l' → ORel G ρ r (.loop l) (.loop l')
  | defer : ORel G ρ r .defer (.deferred (some []))
  | ghost {obj} : ORel G ρ r .ghost obj

theorem CellsRel.free {ρ : Ren} {cs : List Value} {fz : Nat} {x : Bool} {g : Nat} {r : RB} {c : Array Value} {fr : Nat × Nat} (h : CellsRel ρ cs fz x g r c fr) (i : Nat) (hi : fz ≤ i) : ¬ (fr.1 ≤ r.sh + i ∧ r.sh + i < fr.2) := by
  rcases h.fz with h1 | h1 <;> omega

theorem ERel.mono {ρ ρ' : Ren} (h : ρ.le ρ') {e e'} (x : ERel ρ e e') : ERel ρ' e e' :=
  ⟨x.key.mono h, x.val.mono h, let ⟨r, a, b⟩ := x.sid; ⟨r, h _ _ a, b⟩⟩
theorem EsRel.mono {ρ ρ' : Ren} (h : ρ.le ρ') {e e'} (x : EsRel ρ e e') : EsRel ρ' e e' := by
  induction x with
  | nil => exact .nil
  | cons a _ ih => exact .cons (a.mono h) ih
theorem MapRel.mono {ρ ρ' : Ren} (h : ρ.le ρ') {es ces n} (x : MapRel ρ es ces n) : MapRel ρ' es ces n :=
  ⟨let ⟨l, a, b⟩ := x.perm; ⟨l, a, b.mono h⟩, x.nodup, x.lt⟩
theorem LoopRel.mono {G : Nat} {ρ ρ' : Ren} (h : ρ.le ρ') {l l'} (x : LoopRel G ρ l l') : LoopRel G ρ' l l' :=
  ⟨x.state, x.jump, x.tm.mono h, x.params, x.assign, x.body, let ⟨r, a, b⟩ := x.defers; ⟨r, h _ _ a, b⟩, x.pOk, x.aOk, x.bOk⟩
theorem CellsRel.mono {ρ ρ' : Ren} (h : ρ.le ρ') {cs fz x g r c fr} (y : CellsRel ρ cs fz x g r c fr) : CellsRel ρ' cs fz x g r c fr :=
  ⟨fun i v e => let ⟨v', a, b⟩ := y.at_ i v e; ⟨v', a, b.mono h⟩, y.size, y.ex, y.en, y.es, y.fz⟩
theorem ORel.mono {G : Nat} {ρ ρ' : Ren} (h : ρ.le ρ') {r o o'} (x : ORel G ρ r o o') : ORel G ρ' r o o' := by
  cases x with
  | cells y => exact .cells (y.mono h)
  | map y => exact .map (y.mono h)
  | siter z => exact .siter z
  | loop y => exact .loop (y.mono h)
  | defer => exact .defer
  | ghost => exact .ghost

/-! ### the heap in a world -/
structure Rel (P : Program) (ρ : Ren) (h : H) (w : World) : Prop where
  dom : ∀ b o, h.tr.get b = some o → ∃ r, ρ b = some r ∧ ∃ obj, w.heap[r.blk]? = some obj ∧ ORel P.globals.size ρ r o obj
  inj : ∀ b b' o o' r r', h.tr.get b = some o → h.tr.get b' = some o' → ρ b = some r → ρ b' = some r' → r.blk = r'.blk → b = b'
  fresh : ∀ b r, ρ b = some r → b < h.next
  dead : ∀ b o, h.tr.get b = some o → b < h.next
  glob : ∀ g, g < P.globals.size → ρ g = some ⟨g, 0, 0, 0⟩
  fl : h.floor ≤ h.next
  gfl : P.globals.size ≤ h.floor

/-- what has become of it, and of all else -/
structure Ext (ρ : Ren) (h : H) (w : World) (ρ' : Ren) (h' : H) (w' : World) : Prop where
  le : ρ.le ρ'
  old : ∀ b, b < h.next → ρ' b = ρ b
  next : h.next ≤ h'.next
  floor : h'.floor = h.floor
  low : ∀ b, b < h.floor → h'.tr.get b = h.tr.get b
  live : ∀ b o', b < h.next → h'.tr.get b = some o' → ∃ o, h.tr.get b = some o
  new : ∀ b o' r, h.next ≤ b → h'.tr.get b = some o' → ρ' b = some r →
    w.heap.size ≤ r.blk ∨ ∃ b0 o0 r0, h.tr.get b0 = some o0 ∧ h.floor ≤ b0 ∧ ρ b0 = some r0 ∧ r0.blk = r.blk
  size : w.heap.size ≤ w'.heap.size
  frame : ∀ c, c < w.heap.size → (∀ b o r, h.tr.get b = some o → h.floor ≤ b → ρ b = some r → r.blk ≠ c) → w'.heap[c]? = w.heap[c]?
  os : w'.os = w.os
  output : w'.output = w.output
  tape : w'.tape = w.tape

theorem Ext.refl {P : Program} {ρ : Ren} {h : H} {w : World} (hr : Rel P ρ h w) : Ext ρ h w ρ h w where
  le := Ren.le_refl ρ
  old := fun _ _ => rfl
  next := Nat.le_refl _
  floor := rfl
  low := fun _ _ => rfl
  live := fun _ o' _ x => ⟨o', x⟩
  new := fun b o' r hb x _ => absurd (hr.dead b o' x) (by omega)
  size := Nat.le_refl _
  frame := fun _ _ _ => rfl
  os := rfl
  output := rfl
  tape := rfl

theorem Ext.trans {P : Program} {ρ ρ₁ ρ₂ : Ren} {h h₁ h₂ : H} {w w₁ w₂ : World} (hr : Rel P ρ h w) (hr₁ : Rel P ρ₁ h₁ w₁) (a : Ext ρ h w ρ₁ h₁ w₁) (b : Ext ρ₁ h₁ w₁ ρ₂ h₂ w₂) :
    Ext ρ h w ρ₂ h₂ w₂ where
  le := Ren.le_trans a.le b.le
  old := fun x hx => (b.old x (Nat.lt_of_lt_of_le hx a.next)).trans (a.old x hx)
  next := Nat.le_trans a.next b.next
  floor := b.floor.trans a.floor
  low := fun x hx => by rw [b.low x (by rw [a.floor]; exact hx), a.low x hx]
  live := fun x o' hx e => by
    obtain ⟨o, ho⟩ := b.live x o' (Nat.lt_of_lt_of_le hx a.next) e
    exact a.live x o hx ho
  new := fun x o' r hx e hρ => by
    by_cases h1 : x < h₁.next
    · obtain ⟨o, ho⟩ := b.live x o' h1 e
      obtain ⟨r', hr', _⟩ := hr₁.dom x o ho
      have := b.le _ _ hr'
      rw [hρ] at this; cases this
      exact a.new x o r hx ho hr'
    · rcases b.new x o' r (by omega) e hρ with h2 | ⟨b0, o0, r0, h2, h3, h4, h5⟩
      · exact .inl (Nat.le_trans a.size h2)
      · by_cases h6 : b0 < h.next
        · obtain ⟨o, ho⟩ := a.live b0 o0 h6 h2
          obtain ⟨r', hr', _⟩ := hr.dom b0 o ho
          have := a.le _ _ hr'
          rw [h4] at this; cases this
          exact .inr ⟨b0, o, r0, ho, by rw [← a.floor]; exact h3, hr', h5⟩
        · rcases a.new b0 o0 r0 (by omega) h2 h4 with h7 | ⟨b1, o1, r1, h7, h8, h9, h10⟩
          · exact .inl (by rw [← h5]; exact h7)
          · exact .inr ⟨b1, o1, r1, h7, h8, h9, by rw [h10, h5]⟩
  size := Nat.le_trans a.size b.size
  frame := fun c hc hn => by
    rw [← a.frame c hc hn]
    refine b.frame c (Nat.lt_of_lt_of_le hc a.size) fun x o r hx hfl hρ he => ?_
    by_cases h1 : x < h.next
    · obtain ⟨o', ho'⟩ := a.live x o h1 hx
      obtain ⟨r', hr', _⟩ := hr.dom x o' ho'
      have := a.le _ _ hr'
      rw [hρ] at this; cases this
      exact hn x o' r ho' (by rw [← a.floor]; exact hfl) hr' he
    · rcases a.new x o r (by omega) hx hρ with h2 | ⟨b0, o0, r0, h2, h3, h4, h5⟩
      · omega
      · exact hn b0 o0 r0 h2 h3 h4 (h5.trans he)
  os := b.os.trans a.os
  output := b.output.trans a.output
  tape := b.tape.trans a.tape

/-! ### steps on the heap -/
def Ren.put (ρ : Ren) (b : Nat) (r : RB) : Ren := fun x => if x = b then some r else ρ x
theorem Ren.le_put {ρ : Ren} {b : Nat} {r : RB} (h : ρ b = none) : ρ.le (ρ.put b r) := fun x q e => by
  unfold Ren.put
  by_cases hx : x = b
  · subst hx; rw [h] at e; cases e
  · rw [if_neg hx]; exact e
@[simp] theorem Ren.put_same (ρ : Ren) (b : Nat) (r : RB) : ρ.put b r b = some r := by simp [Ren.put]
theorem Ren.put_ne {ρ : Ren} {b x : Nat} {r : RB} (h : x ≠ b) : ρ.put b r x = ρ x := by simp [Ren.put, h]

theorem Rel.none_next {P : Program} {ρ : Ren} {h : H} {w : World} (hr : Rel P ρ h w) {b : Nat} (hb : h.next ≤ b) : ρ b = none := by
  cases e : ρ b with
  | none => rfl
  | some r => have := hr.fresh b r e; omega

/-- a new object -/
theorem Rel.new {P : Program} {ρ : Ren} {h : H} {w : World} (hr : Rel P ρ h w) (o : AObj) (O : Obj) (en es : Nat)
    (ho : ORel P.globals.size (ρ.put h.next ⟨w.heap.size, 0, en, es⟩) ⟨w.heap.size, 0, en, es⟩ o O) :
    Rel P (ρ.put h.next ⟨w.heap.size, 0, en, es⟩) (h.new o).2 (w.alloc O) ∧ Ext ρ h w (ρ.put h.next ⟨w.heap.size, 0, en, es⟩) (h.new o).2 (w.alloc O) := by
  have hle : ρ.le (ρ.put h.next ⟨w.heap.size, 0, en, es⟩) := Ren.le_put (hr.none_next (Nat.le_refl _))
  have hget : ∀ b, (h.new o).2.tr.get b = if b = h.next then some o else h.tr.get b := fun b => Tr.get_set _ _ _ _
  have hnew : (w.alloc O).heap[w.heap.size]? = some O := heap_alloc_new w O
  constructor
  · constructor
    · intro b o' e
      rw [hget] at e
      by_cases hb : b = h.next
      · subst hb
        rw [if_pos rfl] at e; cases e
        exact ⟨_, Ren.put_same _ _ _, O, hnew, ho⟩
      · rw [if_neg hb] at e
        obtain ⟨r, h1, obj, h2, h3⟩ := hr.dom b o' e
        have hlt : r.blk < w.heap.size := (Array.getElem?_eq_some_iff.1 h2).1
        exact ⟨r, hle _ _ h1, obj, by rw [heap_alloc_old w O _ hlt]; exact h2, h3.mono hle⟩
    · intro b b' o1 o2 r r' e e' q q' hblk
      rw [hget] at e e'
      by_cases hb : b = h.next
      · by_cases hb' : b' = h.next
        · rw [hb, hb']
        · exfalso
          rw [if_neg hb'] at e'
          obtain ⟨r1, h1, obj, h2, _⟩ := hr.dom b' o2 e'
          have hlt : r1.blk < w.heap.size := (Array.getElem?_eq_some_iff.1 h2).1
          subst hb
          rw [Ren.put_same] at q; cases q
          rw [Ren.put_ne hb', h1] at q'; cases q'
          simp only at hblk; omega
      · rw [if_neg hb] at e
        obtain ⟨r1, h1, obj, h2, _⟩ := hr.dom b o1 e
        have hlt : r1.blk < w.heap.size := (Array.getElem?_eq_some_iff.1 h2).1
        rw [Ren.put_ne hb, h1] at q; cases q
        by_cases hb' : b' = h.next
        · exfalso
          subst hb'
          rw [Ren.put_same] at q'; cases q'
          simp only at hblk; omega
        · rw [if_neg hb'] at e'
          rw [Ren.put_ne hb'] at q'
          exact hr.inj b b' o1 o2 _ _ e e' h1 q' hblk
    · intro b r e
      show b < Nat.succ h.next
      by_cases hb : b = h.next
      · omega
      · rw [Ren.put_ne hb] at e
        have := hr.fresh b r e; omega
    · intro b o' e
      show b < Nat.succ h.next
      rw [hget] at e
      by_cases hb : b = h.next
      · omega
      · rw [if_neg hb] at e
        have := hr.dead b o' e; omega
    · intro g hg
      have h1 := hr.glob g hg
      exact hle _ _ h1
    · show h.floor ≤ Nat.succ h.next
      have := hr.fl; omega
    · exact hr.gfl
  · constructor
    · exact hle
    · intro b hb; exact Ren.put_ne (by omega)
    · exact Nat.le_succ _
    · rfl
    · intro b hb
      rw [hget, if_neg (by have := hr.fl; omega)]
    · intro b o' hb e
      rw [hget, if_neg (by omega)] at e
      exact ⟨o', e⟩
    · intro b o' r hb e q
      rw [hget] at e
      by_cases hb' : b = h.next
      · subst hb'
        rw [Ren.put_same] at q; cases q
        exact .inl (Nat.le_refl _)
      · rw [if_neg hb'] at e
        have := hr.dead b o' e; omega
    · simp
    · intro c hc _
      exact heap_alloc_old w O c hc
    · rfl
    · rfl
    · rfl

/-- an object becomes another one, in its place -/
theorem Rel.upd {P : Program} {ρ : Ren} {h : H} {w : World} (hr : Rel P ρ h w) {b : Nat} {o o' : AObj} {r : RB} (hb : h.tr.get b = some o) (hfl : h.floor ≤ b) (hρ : ρ b = some r)
    {O' : Obj} {w' : World} (hO : ORel P.globals.size ρ r o' O') (hs : w'.heap.size = w.heap.size) (hat : w'.heap[r.blk]? = some O') (hne : ∀ c, c ≠ r.blk → w'.heap[c]? = w.heap[c]?)
    (h1 : w'.os = w.os) (h2 : w'.output = w.output) (h3 : w'.tape = w.tape) :
    Rel P ρ (h.put b o') w' ∧ Ext ρ h w ρ (h.put b o') w' := by
  have hget : ∀ x, (h.put b o').tr.get x = if x = b then some o' else h.tr.get x := fun x => Tr.get_set _ _ _ _
  have hlive : ∀ x ox, (h.put b o').tr.get x = some ox → ∃ ox', h.tr.get x = some ox' := fun x ox e => by
    rw [hget] at e
    by_cases hx : x = b
    · subst hx; exact ⟨o, hb⟩
    · rw [if_neg hx] at e; exact ⟨ox, e⟩
  constructor
  · constructor
    · intro x ox e
      rw [hget] at e
      by_cases hx : x = b
      · subst hx
        rw [if_pos rfl] at e; cases e
        exact ⟨r, hρ, O', hat, hO⟩
      · rw [if_neg hx] at e
        obtain ⟨rx, q1, obj, q2, q3⟩ := hr.dom x ox e
        refine ⟨rx, q1, obj, ?_, q3⟩
        rw [hne]
        · exact q2
        · intro heq
          exact hx (hr.inj x b ox o rx r e hb q1 hρ heq)
    · intro x y ox oy rx ry ex ey qx qy heq
      obtain ⟨ox', ex'⟩ := hlive x ox ex
      obtain ⟨oy', ey'⟩ := hlive y oy ey
      exact hr.inj x y ox' oy' rx ry ex' ey' qx qy heq
    · exact hr.fresh
    · intro x ox e
      obtain ⟨ox', ex'⟩ := hlive x ox e
      exact hr.dead x ox' ex'
    · exact hr.glob
    · exact hr.fl
    · exact hr.gfl
  · constructor
    · exact Ren.le_refl ρ
    · exact fun _ _ => rfl
    · exact Nat.le_refl _
    · rfl
    · intro x hx
      rw [hget, if_neg (by omega)]
    · intro x ox _ e; exact hlive x ox e
    · intro x ox rx hx e _
      obtain ⟨ox', ex'⟩ := hlive x ox e
      have := hr.dead x ox' ex'
      have h0 : (h.put b o').next = h.next := rfl
      omega
    · omega
    · intro c hc hn
      refine hne c fun heq => ?_
      exact hn b o r hb hfl hρ heq.symm
    · exact h1
    · exact h2
    · exact h3

/-- a draw of the tape changes nothing of it -/
theorem Rel.of_heap {P : Program} {ρ : Ren} {h : H} {w w' : World} (hr : Rel P ρ h w) (he : w'.heap = w.heap) (h1 : w'.os = w.os) (h2 : w'.output = w.output) (h3 : w'.tape = w.tape) :
    Rel P ρ h w' ∧ Ext ρ h w ρ h w' := by
  refine ⟨⟨fun b o e => ?_, hr.inj, hr.fresh, hr.dead, hr.glob, hr.fl, hr.gfl⟩, ⟨Ren.le_refl ρ, fun _ _ => rfl, Nat.le_refl _, rfl, fun _ _ => rfl, fun _ o' _ x => ⟨o', x⟩, fun b o' r hb x _ => absurd (hr.dead b o' x) (by omega), by rw [he]; exact Nat.le_refl _, fun c _ _ => by rw [he], h1, h2, h3⟩⟩
  obtain ⟨r, a, obj, q, z⟩ := hr.dom b o e
  exact ⟨r, a, obj, by rw [he]; exact q, z⟩

end Go.Ae
end

section
/-
  AE: reading and writing memory.
-/
namespace Go.Ae

def putB (w : World) (g : Nat) (o : Obj) : World := { w with heap := w.heap.setIfInBounds g o }
@[simp] theorem putB_size (w : World) (g : Nat) (o : Obj) : (putB w g o).heap.size = w.heap.size := by simp [putB]
theorem putB_same (w : World) (g : Nat) (o : Obj) (h : g < w.heap.size) : (putB w g o).heap[g]? = some o := by simp [putB, h]
theorem putB_ne (w : World) (g c : Nat) (o : Obj) (h : c ≠ g) : (putB w g o).heap[c]? = w.heap[c]? := by
  simp [putB, Array.getElem?_setIfInBounds_ne (Ne.symm h)]
theorem putB_putB (w : World) (g : Nat) (o o' : Obj) : putB (putB w g o) g o' = putB w g o' := by simp [putB]
theorem putB_self {w : World} {g : Nat} {o : Obj} (h : w.heap[g]? = some o) : putB w g o = w := by
  have : w.heap.setIfInBounds g o = w.heap := by
    apply Array.ext
    · simp
    · intro i h1 h2
      by_cases e : g = i
      · subst e
        obtain ⟨hlt, he⟩ := Array.getElem?_eq_some_iff.1 h
        rw [Array.getElem_setIfInBounds (by simpa using h2), if_pos rfl]; exact he.symm
      · rw [Array.getElem_setIfInBounds (by simpa using h2), if_neg e]
  simp only [putB, this]

theorem setCell_putB {w : World} {g i : Nat} {cur : Array Value} {t : TypeId} {fr : Nat × Nat} (v : Value) (h : w.heap[g]? = some (.cells cur t fr)) :
    w.setCell ⟨g, i, none⟩ v = putB w g (.cells (cur.setIfInBounds i v) t fr) := by
  obtain ⟨hlt, he⟩ := Array.getElem?_eq_some_iff.1 h
  have : w.heap.modify g (fun
      | .cells c elem frozen => .cells (if (none : Option Nat).isSome then c else c.setIfInBounds i v) elem frozen
      | o => o) = w.heap.setIfInBounds g (.cells (cur.setIfInBounds i v) t fr) := by
    apply Array.ext
    · simp
    · intro j h1 h2
      rw [Array.getElem_modify, Array.getElem_setIfInBounds (by simpa using h2)]
      by_cases e : g = j
      · subst e; simp [he]
      · simp [e]
  simp only [World.setCell, putB]
  exact congrArg (fun x => ({ w with heap := x } : World)) this

theorem add_eq (a : Addr) (n : Nat) (h : a.spot = none) : a.add n = ⟨a.block, a.off + n, none⟩ := by
  obtain ⟨b, o, s⟩ := a
  simp only at h; subst h
  unfold Addr.add
  split
  · rename_i e; subst e; rfl
  · rfl

theorem ARel.out {ρ : Ren} {a a' : Addr} (h : ARel ρ a a') {r : RB} (hr : ρ a.block = some r) : a' = ⟨r.blk, r.sh + a.off, none⟩ := by
  obtain ⟨_, r', h1, h2⟩ := h
  rw [hr] at h1; cases h1; exact h2
theorem ARel.spot {ρ : Ren} {a a' : Addr} (h : ARel ρ a a') : a'.spot = none := by
  obtain ⟨_, r', _, h2⟩ := h; rw [h2]
theorem ARel.moved {ρ : Ren} {a a' : Addr} (h : ARel ρ a a') (n : Nat) : ARel ρ (moved a n) (a'.add n) := by
  obtain ⟨h0, r', h1, h2⟩ := h
  refine ⟨rfl, r', h1, ?_⟩
  rw [add_eq _ _ (by rw [h2]), h2]
  simp [Ae.moved, Nat.add_assoc]

section
variable {P : Program} {ρ : Ren} {h : H} {w : World}

/-- the block behind an address -/
theorem Rel.cellsOf (hr : Rel P ρ h w) {b : Nat} {cs : List Value} {e fz g : Nat} {x : Bool} (hb : h.tr.get b = some (.cells cs e fz x g)) :
    ∃ r c fr, ρ b = some r ∧ w.heap[r.blk]? = some (.cells c e fr) ∧ CellsRel ρ cs fz x g r c fr := by
  obtain ⟨r, h1, obj, h2, h3⟩ := hr.dom b _ hb
  cases h3 with
  | cells y => exact ⟨r, _, _, h1, h2, y⟩

theorem Rel.cell (hr : Rel P ρ h w) {a a' : Addr} {v : Value} (hc : h.cell a = some v) (ha : ARel ρ a a') : ∃ v', w.cell? a' = some v' ∧ VRel ρ v v' := by
  unfold H.cell at hc
  split at hc
  · split at hc
    · rename_i cs e fz x g hb
      obtain ⟨r, c, fr, h1, h2, h3⟩ := hr.cellsOf hb
      rw [nth_eq] at hc
      obtain ⟨v', h4, h5⟩ := h3.at_ _ _ hc
      refine ⟨v', ?_, h5⟩
      rw [ha.out h1]
      simp [World.cell?, h2, h4]
    · cases hc
  · cases hc

theorem Rel.cellsAt (hr : Rel P ρ h w) {a a' : Addr} {n : Nat} {cs : List Value} (hc : h.cellsAt a n = some cs) (ha : ARel ρ a a') :
    cs.length = n ∧ ∃ cs', VsRel ρ cs cs' ∧ (∀ j v, cs'[j]? = some v → w.cell? (a'.add j) = some v) ∧ (loadCells a' n).run P w = .ok cs'.toArray w := by
  unfold H.cellsAt at hc
  split at hc
  · split at hc
    · rename_i l e fz x g hb
      obtain ⟨r, c, fr, h1, h2, h3⟩ := hr.cellsOf hb
      obtain ⟨hl, hlen⟩ := cut_len hc
      refine ⟨hl, ?_⟩
      have hsz := h3.size
      let cs' : List Value := (List.range n).map fun i => c.getD (r.sh + a.off + i) undef
      have hl' : cs'.length = n := by simp [cs']
      have hat : ∀ j, j < n → c[r.sh + a.off + j]? = some (c.getD (r.sh + a.off + j) undef) := fun j hj => by
        have : r.sh + a.off + j < c.size := by omega
        simp [Array.getD_eq_getD_getElem?, this]
      have hcell : ∀ j v, cs'[j]? = some v → w.cell? (a'.add j) = some v := fun j v hj => by
        have hjn : j < n := by
          have := (List.getElem?_eq_some_iff.1 hj).1
          omega
        rw [add_eq _ _ ha.spot, ha.out h1]
        have : cs'[j]? = some (c.getD (r.sh + a.off + j) undef) := by simp [cs', hjn]
        rw [this] at hj; cases hj
        simp only [World.cell?, h2]
        simpa using hat j hjn
      refine ⟨cs', ?_, hcell, ?_⟩
      · refine VsRel.of_at (by rw [hl', hl]) fun i v hi => ?_
        have hin : i < n := by
          have := (List.getElem?_eq_some_iff.1 hi).1
          omega
        rw [cut_nth hc i hin] at hi
        obtain ⟨v', q1, q2⟩ := h3.at_ _ _ hi
        refine ⟨v', ?_, q2⟩
        have : cs'[i]? = some (c.getD (r.sh + a.off + i) undef) := by simp [cs', hin]
        rw [this]
        have e := hat i hin
        rw [Nat.add_assoc, q1] at e
        rw [Nat.add_assoc]; exact e.symm
      · have := run_loadCells_list (P := P) w a' cs' hcell
        rw [hl'] at this; exact this
    · cases hc
  · cases hc

theorem oneCell_eq (v : Value) : v.oneCell' = oneCell v := by cases v <;> rfl

/-- writing a row of cells -/
theorem run_storeCells_free (g o : Nat) (t : TypeId) (fr : Nat × Nat) : ∀ (vs : List Value) (i : Nat) (cur : Array Value) (w : World), w.heap[g]? = some (.cells cur t fr) → o + i + vs.length ≤ cur.size →
    (∀ v ∈ vs, oneCell v = true) → (∀ j, o + i ≤ j → j < o + i + vs.length → ¬ (fr.1 ≤ j ∧ j < fr.2)) →
    (storeCells ⟨g, o, none⟩ vs i).run P w = .ok () (putB w g (.cells (cur.toList.take (o + i) ++ vs ++ cur.toList.drop (o + i + vs.length)).toArray t fr))
  | [], i, cur, w, hg, _, _, _ => by
    simp only [storeCells, List.append_nil, List.length_nil, Nat.add_zero, List.take_append_drop, Array.toArray_toList]
    rw [putB_self hg]
    rfl
  | v :: rest, i, cur, w, hg, hl, h1, hf => by
    have hi : o + i < cur.size := by simp at hl; omega
    have hadd : (⟨g, o, none⟩ : Addr).add i = ⟨g, o + i, none⟩ := add_eq _ _ rfl
    have hcell : w.cell? ⟨g, o + i, none⟩ = some cur[o + i] := by simp [World.cell?, hg, hi]
    have hfro : w.frozen? ⟨g, o + i, none⟩ = false := by
      have := hf (o + i) (Nat.le_refl _) (by simp)
      simp only [World.frozen?, hg]
      simpa using this
    have hst : (store ((⟨g, o, none⟩ : Addr).add i) v).run P w = .ok () (putB w g (.cells (cur.setIfInBounds (o + i) v) t fr)) := by
      rw [hadd, run_store P w _ v _ (by rw [oneCell_eq]; exact h1 v (by simp)), hcell]
      simp only [hfro, Bool.false_eq_true, if_false]
      rw [setCell_putB v hg]
    have hlt : g < w.heap.size := (Array.getElem?_eq_some_iff.1 hg).1
    have ih := run_storeCells_free g o t fr rest (i + 1) (cur.setIfInBounds (o + i) v) (putB w g (.cells (cur.setIfInBounds (o + i) v) t fr)) (putB_same _ _ _ hlt)
      (by simp at hl ⊢; omega) (fun x hx => h1 x (by simp [hx])) (fun j ha hb => hf j (by omega) (by simp at hb ⊢; omega))
    simp only [storeCells, Sem.run_bind, hst, Result.andThen_ok, ih, putB_putB]
    congr 4
    have e := list_seg_step cur.toList (o + i) v rest (by simp at hl ⊢; omega)
    simpa [Array.toList_setIfInBounds, Nat.add_assoc] using e

theorem allOne_spec : ∀ {vs : List Value}, allOne vs = true → ∀ v ∈ vs, oneCell v = true
  | [], _, v, h => by cases h
  | x :: xs, h, v, hv => by
    have h' : (match isOne x with | true => allOne xs | false => false) = true := h
    split at h'
    · rename_i hx
      rcases List.mem_cons.1 hv with rfl | hm
      · cases v <;> first | rfl | (simp [isOne] at hx)
      · exact allOne_spec h' v hm
    · cases h'

/-- the abstract write -/
theorem Rel.write (hr : Rel P ρ h w) {a a' : Addr} {vs vs' : List Value} {h' : H} (hw : h.write a vs = some h') (ha : ARel ρ a a') (hv : VsRel ρ vs vs') :
    ∃ w', (storeCells a' vs').run P w = .ok () w' ∧ Rel P ρ h' w' ∧ Ext ρ h w ρ h' w' := by
  unfold H.write at hw
  split at hw
  · rename_i hc
    split at hw
    · rename_i cs e fz x g hb
      split at hw
      · rename_i hfz
        split at hw
        · rename_i cs2 hlay
          cases hw
          obtain ⟨r, c, fr, g1, g2, g3⟩ := hr.cellsOf hb
          have hlen := hv.length
          obtain ⟨hle, _⟩ := layAt_spec _ _ _ _ hlay
          have hsz := g3.size
          have hfz' : fz ≤ a.off := Nat.le_of_ble_eq_true hfz
          simp only [Bool.and_eq_true] at hc
          have hfl : h.floor ≤ a.block := Nat.le_of_ble_eq_true hc.1.2
          have h1 := allOne_spec hc.2
          have hst := run_storeCells_free (P := P) r.blk (r.sh + a.off) e fr vs' 0 c w g2 (by rw [hlen]; omega)
            (fun v hm => by
              obtain ⟨i, hi⟩ := List.getElem?_of_mem hm
              have hil : i < vs.length := by have := (List.getElem?_eq_some_iff.1 hi).1; omega
              obtain ⟨v', q1, q2⟩ := hv.at i vs[i] (by simp [hil])
              rw [hi] at q1; cases q1
              rw [q2.oneCell]; exact h1 _ (List.getElem_mem hil))
            (fun j ha hb => by
              have := g3.free (j - r.sh) (by omega)
              rw [show r.sh + (j - r.sh) = j from by omega] at this
              exact this)
          have hlt : r.blk < w.heap.size := (Array.getElem?_eq_some_iff.1 g2).1
          rw [ha.out g1]
          refine ⟨_, hst, ?_⟩
          generalize hnew : (c.toList.take (r.sh + a.off + 0) ++ vs' ++ c.toList.drop (r.sh + a.off + 0 + vs'.length)).toArray = c'
          have hc'sz : c'.size = c.size := by
            rw [← hnew]; simp only [List.size_toArray, List.length_append, List.length_take, List.length_drop, Array.length_toList]; omega
          have hc'at : ∀ i, c'[i]? = if i < r.sh + a.off then c[i]? else if i < r.sh + a.off + vs'.length then vs'[i - (r.sh + a.off)]? else c[i]? := fun i => by
            have hlo : (c.toList.take (r.sh + a.off + 0)).length = r.sh + a.off := by rw [List.length_take, Array.length_toList]; omega
            rw [← hnew, List.getElem?_toArray, List.append_assoc]
            by_cases q : i < r.sh + a.off
            · rw [if_pos q, List.getElem?_append_left (by omega), List.getElem?_take_of_lt (by omega), Array.getElem?_toList]
            · rw [if_neg q, List.getElem?_append_right (by omega), hlo]
              by_cases q2 : i < r.sh + a.off + vs'.length
              · rw [if_pos q2, List.getElem?_append_left (by omega)]
              · rw [if_neg q2, List.getElem?_append_right (by omega), List.getElem?_drop, Array.getElem?_toList]
                congr 1; omega
          refine hr.upd hb hfl g1 (O' := .cells c' e fr) (.cells ?_) (by simp) (putB_same _ _ _ hlt) (fun c hc => putB_ne _ _ _ _ hc) rfl rfl rfl
          refine ⟨fun i v hi => ?_, ?_, ?_, ?_, g3.es, ?_⟩
          · rw [layAt_nth hlay] at hi
            rw [hc'at]
            by_cases q : i < a.off
            · rw [if_pos q] at hi
              rw [if_pos (by omega)]; exact g3.at_ i v hi
            · rw [if_neg q] at hi
              rw [if_neg (by omega)]
              by_cases q2 : i < a.off + vs.length
              · rw [if_pos q2] at hi
                rw [if_pos (by omega), show r.sh + i - (r.sh + a.off) = i - a.off from by omega]
                exact hv.at _ _ hi
              · rw [if_neg q2] at hi
                rw [if_neg (by omega)]
                exact g3.at_ i v hi
          · rw [hc'sz, layAt_len hlay]; exact hsz
          · intro hx; rw [hc'sz, layAt_len hlay]; exact g3.ex hx
          · rw [hc'sz]; exact g3.en
          · exact g3.fz
        · cases hw
      · cases hw
    · cases hw
  · cases hw
end
end Go.Ae
end
