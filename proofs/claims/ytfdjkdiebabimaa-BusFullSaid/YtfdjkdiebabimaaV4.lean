/- The condition of a whole body, and its soundness: a function whose body's condition holds returns so. Conditions: none. -/
import Derived.Test.YtfdjkdiebabimaaV3
set_option linter.unusedVariables false
set_option linter.unusedSimpArgs false
namespace Go.V
open Go.RowKit

/-! Regions that draw. -/
structure PickQ (c a b : Value) (K : Value → Prop) : Prop where
  h : ∃ t, c = .bool t ∧ K (if t then a else b)
/-- In every world of E the operation yields one value and leaves the world alone. -/
structure RunG (P : Program) (s : Sem Value) (E : World → Prop) (K : Value → Prop) : Prop where
  h : ∃ v, (∀ w1, E w1 → s.run P w1 = .ok v w1) ∧ K v
/-- In every world that extends w the operation yields one value and leaves the world alone. -/
abbrev RunQ (P : Program) (s : Sem Value) (w : World) (K : Value → Prop) : Prop := RunG P s (Ext w) K
/-- For some set E of worlds, in which w is. -/
structure DrawE (A : (World → Prop) → Prop) (w : World) : Prop where
  h : ∃ E : World → Prop, E w ∧ A E
structure GuardQ (b : Value) (want : Bool) (A : (Value → Prop) → Prop) (K : Value → Prop) : Prop where
  h1 : b = .bool want → A K
  h2 : b ≠ .bool want → K undef
def vcQ (P : Program) (fr : Fr) (o : Op) (ty : TypeId) (E : World → Prop) (K : Value → Prop) : Prop :=
  match o with
  | .move x | .assign x =>
    match rd fr x with
    | some v => K v
    | none => False
  | .pick c a b =>
    match rd fr c, rd fr a, rd fr b with
    | some c, some a, some b => PickQ c a b K
    | _, _, _ => False
  | o =>
    match semOf fr ty o with
    | some s => RunG P s E K
    | none => False
def specOp : Op → Bool
  | .alloc .. | .box .. | .buildSlice .. | .makeSlice .. | .makeMap .. | .store .. | .mapUpdate .. | .insert .. | .entryStore .. | .mapEntry .. | .range .. | .next .. => true
  | .call { callee := .builtin b, .. } =>
    match b with
    | .len | .cap | .max | .min => false
    | _ => true
  | .call _ => true
  | _ => false
def tailOp : Op → Bool
  | .store .. | .mapUpdate .. | .insert .. | .entryStore .. => true
  | .call { callee := .builtin b, .. } =>
    match b with
    | .len | .cap | .max | .min => false
    | _ => true
  | _ => false
def headLen : List Oper → Nat
  | [] => 0
  | o :: r => if tailOp o.op then 0 else headLen r + 1
def vcHead (P : Program) (ops : List Oper) (E : World → Prop) (K : Fr → World → Prop) : List Oper → Fr → World → Prop
  | [], fr, w => K fr w
  | o :: rest, fr, w =>
    cond (specOp o.op)
      (match o.guard with
      | none => vcOp P fr o.op o.type w fun v w' => E w' ∧ vcHead P ops E K rest (fr.putO o.dst (some v)) w'
      | some (j, want) =>
        match guardAt ops fr j with
        | some b => GuardP b want (fun K' => vcOp P fr o.op o.type w K') w fun v w' => E w' ∧ vcHead P ops E K rest (fr.putO o.dst (some v)) w'
        | none => False)
      (match o.guard with
      | none => vcQ P fr o.op o.type E fun v => vcHead P ops E K rest (fr.putO o.dst (some v)) w
      | some (j, want) =>
        match guardAt ops fr j with
        | some b => GuardQ b want (fun K' => vcQ P fr o.op o.type E K') fun v => vcHead P ops E K rest (fr.putO o.dst (some v)) w
        | none => False)
/-- How many operations may come in whatever order. -/
def drawN (ops : List Oper) : Option Nat := ((List.range (ops.length + 1)).drop (headLen ops)).find? fun n => drawB (fun o => specOp o.op) ops.toArray n
def vcDraw (P : Program) (n : Nat) (ops : List Oper) (fr : Fr) (w : World) (K : Fr → World → Prop) : Prop :=
  ∀ w1, Ext w w1 → vcHead P ops (Ext w1) (fun fr' w' => vcOps P ops K (ops.drop n) fr' w') (ops.take n) fr w1
def vcDrawE (P : Program) (n : Nat) (ops : List Oper) (fr : Fr) (w : World) (K : Fr → World → Prop) : Prop :=
  ∀ w1, Ext w w1 → DrawE (fun E => vcHead P ops E (fun fr' w' => vcOps P ops K (ops.drop n) fr' w') (ops.take n) fr w1) w1

/-! Code. -/
def joinK (fr : Fr) (S J : List Nat) (F : Fr → World → Prop) : NF J.length := NF.mk J.length fun vs w => F ((fr.forget S).puts J vs) w
def vc (P : Program) (es : List Nat) : Code → Fr → World → Post → Prop
  | .skip, fr, w, Q => Q.normal fr w
  | .region _ ops false, fr, w, Q => vcOps P ops.toList Q.normal ops.toList fr w
  | .region id ops true, fr, w, Q =>
    match drawN ops.toList with
    | some n => cond (n == headLen ops.toList && !es.contains id) (vcDraw P n ops.toList fr w Q.normal) (vcDrawE P n ops.toList fr w Q.normal)
    | none => False
  | .seq a b, fr, w, Q => vc P es a fr w { Q with normal := fun fr w => vc P es b fr w Q }
  | .cond c a b, fr, w, Q =>
    match rd fr c with
    | some c =>
      let S := nub (sets a ++ sets b)
      let J := live fr S
      CondP c J.length (fun k => vc P es a fr w { Q with normal := meet J.length J k }) (fun k => vc P es b fr w { Q with normal := meet J.length J k }) (joinK fr S J Q.normal)
    | none => False
  | .block id b, fr, w, Q =>
    let S := nub (sets b)
    let J := live fr S
    JoinP J.length (fun k => vc P es b fr w { normal := meet J.length J k, exit := fun i fr w => cond (i == id) (meet J.length J k fr w) (Q.exit i fr w), ret := Q.ret }) (joinK fr S J Q.normal)
  | .loop b, fr, w, Q =>
    let S := nub (sets b)
    let J := live fr S
    match fr.gets J with
    | some vs => LoopP J.length (fun k => NF.mk J.length fun vs w => vc P es b ((fr.forget S).puts J vs) w { Q with normal := meet J.length J k }) vs w
    | none => False
  | .exit id, fr, w, Q => Q.exit id fr w
  | .ret, fr, w, Q => Q.ret fr w
  | _, _, _, _ => False
end Go.V
