/- A calculus of conditions over the code of a function: what a function's body asks of a world, as a plain formula with Lean's own variables in the place of slots. Conditions: none. -/
import Derived.Still
import Derived.Tactics
import Derived.Below
import Derived.KernelRfl
set_option linter.unusedVariables false
namespace Go.V
open Go.RowKit

/-! Continuations of n values. -/
@[reducible] def NF : Nat → Type
  | 0 => World → Prop
  | n + 1 => Value → NF n
def NF.ap : (n : Nat) → NF n → List Value → World → Prop
  | 0, K, _, w => K w
  | _ + 1, _, [], _ => False
  | n + 1, K, v :: vs, w => NF.ap n (K v) vs w
def NF.mk : (n : Nat) → (List Value → World → Prop) → NF n
  | 0, F => fun w => F [] w
  | n + 1, F => fun v => NF.mk n fun vs w => F (v :: vs) w
theorem NF.ap_mk : ∀ (n : Nat) (F : List Value → World → Prop) (vs : List Value) (w : World), vs.length = n → (NF.ap n (NF.mk n F) vs w ↔ F vs w)
  | 0, F, [], w, _ => Iff.rfl
  | n + 1, F, v :: vs, w, h => NF.ap_mk n (fun vs w => F (v :: vs) w) vs w (by simpa using h)

/-! Frames. -/
abbrev Fr := List (Option Value)
def Fr.at : Fr → Nat → Option Value
  | [], _ => none
  | x :: _, 0 => x
  | _ :: r, n + 1 => Fr.at r n
def Fr.put : Fr → Nat → Option Value → Fr
  | [], _, _ => []
  | _ :: r, 0, v => v :: r
  | x :: r, n + 1, v => x :: Fr.put r n v
def Fr.putO (fr : Fr) (d : Option Tmp) (v : Option Value) : Fr :=
  match d with
  | none => fr
  | some d => fr.put d v
def Fr.forget : Fr → List Nat → Fr
  | fr, [] => fr
  | fr, j :: js => Fr.forget (fr.put j none) js
def Fr.puts : Fr → List Nat → List Value → Fr
  | fr, j :: js, v :: vs => Fr.puts (fr.put j (some v)) js vs
  | fr, _, _ => fr
def Fr.gets (fr : Fr) : List Nat → Option (List Value)
  | [] => some []
  | j :: js =>
    match fr.at j, Fr.gets fr js with
    | some v, some vs => some (v :: vs)
    | _, _ => none
def rd (fr : Fr) : Operand → Option Value
  | .tmp t => fr.at t
  | .const v => some v
  | .global g => some (.pointer (some ⟨g, 0, none⟩))
  | .func f => some (.func (.func f) #[] #[])
def rds (fr : Fr) : List Operand → Option (List Value)
  | [] => some []
  | x :: xs =>
    match rd fr x, rds fr xs with
    | some v, some vs => some (v :: vs)
    | _, _ => none
def rdo (fr : Fr) : Option Operand → Option (Option Value)
  | none => some none
  | some x => (rd fr x).map some
def rdp (fr : Fr) : List (Nat × Operand) → Option (List (Nat × Value))
  | [] => some []
  | (i, x) :: xs =>
    match rd fr x, rdp fr xs with
    | some v, some vs => some ((i, v) :: vs)
    | _, _ => none

/-- What the frame says of the temporaries. -/
structure Fits (fr : Fr) (a : Act) : Prop where
  size : fr.length = a.tmps.size
  val : ∀ i v, fr.at i = some v → a.tmps[i]? = some v
  defers : a.defers = []

/-! What an operation asks. -/
structure Run (P : Program) (s : Sem Value) (w : World) (K : Value → World → Prop) : Prop where
  h : ∃ v w', s.run P w = .ok v w' ∧ K v w'
structure RunU (P : Program) (s : Sem Unit) (w : World) (K : World → Prop) : Prop where
  h : ∃ w', s.run P w = .ok () w' ∧ K w'
structure GoN (P : Program) (s : Sem Next) (w : World) (K : Value → World → Prop) : Prop where
  h : match s.run P w with
  | .ok (.value v) w' => K v w'
  | .ok (.enter f args) w' => Calls P f args w' fun e w'' => ∃ v, e = .returned v ∧ K v w''
  | _ => False
structure PickP (c a b : Value) (w : World) (K : Value → World → Prop) : Prop where
  h : ∃ t, c = .bool t ∧ K (if t then a else b) w
def nilSem : Value → Sem Value
  | .pointer none | .nilIface | .nilFunc => stuck "nil"
  | .func (.method _) _ _ => stuck "nilCheck at a method"
  | v => pure v
structure GuardP (b : Value) (want : Bool) (A : (Value → World → Prop) → Prop) (w : World) (K : Value → World → Prop) : Prop where
  h1 : b = .bool want → A K
  h2 : b ≠ .bool want → K undef w
structure JoinP (n : Nat) (A : NF n → Prop) (K : NF n) : Prop where
  h : A K
structure CondP (c : Value) (n : Nat) (A B : NF n → Prop) (K : NF n) : Prop where
  h0 : ∃ b, c = .bool b
  h1 : c = .bool true → A K
  h2 : c = .bool false → B K
structure LoopP (n : Nat) (B : NF n → NF n) (vs : List Value) (w : World) : Prop where
  h : ∃ (I : List Value → World → Prop) (μ : List Value → World → Nat), I vs w ∧
    ∀ vs w, vs.length = n → I vs w → NF.ap n (B (NF.mk n fun vs' w' => I vs' w' ∧ μ vs' w' < μ vs w)) vs w

def sliceSem (fr : Fr) (t : TypeId) (x : Operand) (lo hi mx : Option Operand) : Option (Sem Value) :=
  match rd fr x, rdo fr lo, rdo fr hi, rdo fr mx with
  | some x, some lo, some hi, some mx => some (Instr.sliceAt t x lo hi mx)
  | _, _, _, _ => none
def op2 {α : Type} (fr : Fr) (x y : Operand) (f : Value → Value → α) : Option α :=
  match rd fr x, rd fr y with
  | some x, some y => some (f x y)
  | _, _ => none
def binSem (op : BinOp) (t : TypeId) (x y : Operand) (a b : Value) : Sem Value := do eqGuard op t x y a b; binOp op t a b
abbrev N0 := World → Prop
abbrev N1 := Value → N0
abbrev N2 := Value → N1
abbrev N3 := Value → N2
abbrev N4 := Value → N3
abbrev N5 := Value → N4
abbrev N6 := Value → N5
abbrev N7 := Value → N6
abbrev N8 := Value → N7
abbrev N9 := Value → N8
def builtinSem (b : Builtin) (argTypes : Array TypeId) (ty : TypeId) (args : List Value) : Option (Sem Value) :=
  match b with
  | .append => some (Builtin.append_ argTypes ty args.toArray)
  | .cap => some (Builtin.cap_ argTypes ty args.toArray)
  | .copy => some (Builtin.copy_ argTypes ty args.toArray)
  | .delete => some (Builtin.delete_ argTypes ty args.toArray)
  | .len => some (Builtin.len_ argTypes ty args.toArray)
  | .max => some (Builtin.max_ argTypes ty args.toArray)
  | .min => some (Builtin.min_ argTypes ty args.toArray)
  | _ => none
def callSem (fr : Fr) (ty : TypeId) (c : Call) : Option (Sem Value) :=
  match c.callee with
  | .builtin b =>
    match rds fr c.args.toList with
    | some vs => builtinSem b c.argTypes ty vs
    | none => none
  | _ => none
/-- Operations that hand back a value. -/
def semOf (fr : Fr) (ty : TypeId) : Op → Option (Sem Value)
  | .move x | .assign x => (rd fr x).map pure
  | .alloc e => some (Instr.alloc e true (.tuple #[]))
  | .box e x => (rd fr x).map (Instr.box e)
  | .build t ps => (rdp fr ps.toList).map fun l => Instr.build t l.toArray
  | .buildSlice t n ps => (rdp fr ps.toList).map fun l => Instr.buildSlice t n l.toArray
  | .load t x => (rd fr x).map (Instr.loadAt t)
  | .nilCheck x => (rd fr x).map nilSem
  | .binOp op t x y _ => op2 fr x y (binSem op t x y)
  | .unOp op _ x => (rd fr x).map (Op.unary op)
  | .convert s d x => (rd fr x).map (convert s d)
  | .makeInterface t x => (rd fr x).map (Instr.makeInterface t)
  | .makeFunc fn a b =>
    match rds fr a.toList, rds fr b.toList with
    | some a, some b => some (Instr.makeFunc fn a.toArray b.toArray)
    | _, _ => none
  | .makeMap t r => (rdo fr r).map (Instr.makeMap t)
  | .makeSlice t l c => op2 fr l c (Instr.makeSlice t)
  | .slice t x lo hi mx => sliceSem fr t x lo hi mx
  | .fieldAddr s x f => (rd fr x).map fun v => Instr.fieldAt s v f
  | .field t x f => (rd fr x).map fun v => Instr.field t v f
  | .indexAddr t x i => op2 fr x i (Instr.indexAt t)
  | .index t x i => op2 fr x i (Instr.index t)
  | .lookup t x i ok => op2 fr x i fun a b => Instr.lookup t a b ok
  | .mapEntry t m k => op2 fr m k (Instr.mapEntry t)
  | .range t x => (rd fr x).map (Instr.range t)
  | .next it s => (rd fr it).map fun v => Instr.next v s ty
  | .entry it => (rd fr it).map Instr.entry
  | .typeAssert x a b ok => (rd fr x).map fun v => Instr.typeAssert v a b ok
  | .extract t i => (rd fr t).map fun v => Instr.extract v i
  | .call c => callSem fr ty c
  | _ => none
/-- Operations that hand back nothing. -/
def unitOf (fr : Fr) : Op → Option (Sem Unit)
  | .store t a x => op2 fr a x (Instr.storeAt t)
  | .mapUpdate t m k x | .insert t m k x =>
    match rd fr m, rd fr k, rd fr x with
    | some m, some k, some x => some (Instr.mapUpdate t m k x)
    | _, _, _ => none
  | .entryStore t m s x =>
    match rd fr m, rd fr s, rd fr x with
    | some m, some s, some x => some (Instr.entryStore t m s x)
    | _, _, _ => none
  | _ => none
/-- Calls. -/
def calleeSem (fr : Fr) (vs : List Value) : Callee → Option (Sem Next)
  | .value (.func f) => some (callFunc f vs.toArray)
  | .value x => (rd fr x).map fun v => do let d ← Deferred.ofValue v vs.toArray; invoke d.target d.args
  | .invoke r name => (rd fr r).map fun v => callMethod v name vs.toArray
  | .builtin _ => none
def callOf (fr : Fr) : Op → Option (Sem Next)
  | .call c =>
    match rds fr c.args.toList with
    | some vs => calleeSem fr vs c.callee
    | none => none
  | _ => none
/-- One operation; K takes what it leaves in its slot (a move leaves its operand, with no word). -/
def vcOp (P : Program) (fr : Fr) (o : Op) (ty : TypeId) (w : World) (K : Value → World → Prop) : Prop :=
  match o with
  | .move x | .assign x =>
    match rd fr x with
    | some v => K v w
    | none => False
  | .pick c a b =>
    match rd fr c, rd fr a, rd fr b with
    | some c, some a, some b => PickP c a b w K
    | _, _, _ => False
  | o =>
    match semOf fr ty o with
    | some s => Run P s w K
    | none =>
      match unitOf fr o with
      | some s => RunU P s w (K undef)
      | none =>
        match callOf fr o with
        | some s => GoN P s w K
        | none => False
def guardAt (ops : List Oper) (fr : Fr) (j : Nat) : Option Value := (ops[j]?.bind (·.dst)).bind fr.at
def vcOps (P : Program) (ops : List Oper) (K : Fr → World → Prop) : List Oper → Fr → World → Prop
  | [], fr, w => K fr w
  | o :: rest, fr, w =>
    match o.guard with
    | none => vcOp P fr o.op o.type w fun v w' => vcOps P ops K rest (fr.putO o.dst (some v)) w'
    | some (j, want) =>
      match guardAt ops fr j with
      | some b => GuardP b want (fun K' => vcOp P fr o.op o.type w K') w fun v w' => vcOps P ops K rest (fr.putO o.dst (some v)) w'
      | none => False

/-! Slots that a piece of code may write. -/
def dsts : List Oper → List Nat
  | [] => []
  | o :: r =>
    match o.dst with
    | some d => d :: dsts r
    | none => dsts r
def nub : List Nat → List Nat
  | [] => []
  | x :: r => let s := nub r; if s.contains x then s else x :: s
def sets : Code → List Nat
  | .region _ ops _ => dsts ops.toList
  | .seq a b => sets a ++ sets b
  | .cond _ a b => sets a ++ sets b
  | .block _ b => sets b
  | .loop b => sets b
  | _ => []
def live (fr : Fr) : List Nat → List Nat
  | [] => []
  | x :: r =>
    match fr.at x with
    | some _ => x :: live fr r
    | none => live fr r
structure Post where
  normal : Fr → World → Prop
  exit : Nat → Fr → World → Prop
  ret : Fr → World → Prop
def meet (n : Nat) (J : List Nat) (k : NF n) (fr : Fr) (w : World) : Prop :=
  match fr.gets J with
  | some vs => NF.ap n k vs w
  | none => False
end Go.V
