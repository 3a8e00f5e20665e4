/- The conditions of functions, printed by a program off the loaded code and held against it by the kernel. Conditions: none. -/
import Derived.Test.YtfdjkdiebabimaaV5
import Derived.Test.YtfdjkdiebabimaaProg
set_option linter.unusedVariables false
set_option maxRecDepth 100000
namespace Go.Proofs.Ytfdjkdiebabimaa.Sh
open Go Go.V
theorem mixed : Try.prog.follows .mixedOrders = true := by kernel_rfl
/-- busbar/bus.New -/
def S8 (room_0 rules_1 : Value) (w : World) (R : Value → World → Prop) : Prop :=
  Run Try.prog (Builtin.len_ #[22] 3 #[rules_1]) w fun t13 w1 =>
  Run Try.prog (binSem Go.BinOp.lss 3 (Go.Operand.tmp 13) (Go.Operand.const (Go.Value.int Go.IntKind.i64 1)) t13 (Go.Value.int Go.IntKind.i64 1)) w1 fun t14 w2 =>
  GuardP t14 false (fun (k1 : N1) => k1 rules_1 w2) w2 fun t16 w3 =>
  GuardP t14 false (fun (k2 : N1) => Run Try.prog (Builtin.len_ #[22] 3 #[t16]) w3 k2) w3 fun t17 w4 =>
  GuardP t14 false (fun (k3 : N1) => Run Try.prog (binSem Go.BinOp.gtr 3 (Go.Operand.tmp 17) (Go.Operand.const (Go.Value.int Go.IntKind.i64 8)) t17 (Go.Value.int Go.IntKind.i64 8)) w4 k3) w4 fun t18 w5 =>
  PickP t14 (Go.Value.bool true) t18 w5 fun t19 w6 =>
  CondP t19 2 (fun (k4 : N2) =>
    Run Try.prog (Instr.makeInterface 70 (Go.Value.int Go.IntKind.i64 1)) w6 fun t20 w7 =>
    R (.tuple #[(Go.Value.pointer none), t20]) w7)
  (fun (k5 : N2) =>
    k5 (Go.Value.pointer none) Go.Value.nilIface w6)
  (fun (t4 : Value) (t5 : Value) (w8 : World) => 
  Run Try.prog (Instr.build 74 #[]) w8 fun t21 w9 =>
  Run Try.prog (Instr.box 74 t21) w9 fun t22 w10 =>
  Run Try.prog (Builtin.len_ #[22] 3 #[rules_1]) w10 fun t24 w11 =>
  JoinP 3 (fun (k6 : N3) =>
    LoopP 3 (fun (k7 : N3) => (fun (t4 : Value) (t5 : Value) (t25 : Value) (w12 : World) => 
      Run Try.prog (binSem Go.BinOp.lss 3 (Go.Operand.tmp 25) (Go.Operand.tmp 24) t25 t24) w12 fun t26 w13 =>
      CondP t26 0 (fun (k8 : N0) =>
        k8 w13)
      (fun (k9 : N0) =>
        k6 t4 t5 t25 w13)
      (fun (w14 : World) => 
      JoinP 2 (fun (k10 : N2) =>
        Run Try.prog (Instr.indexAt 22 rules_1 t25) w14 fun t27 w15 =>
        Run Try.prog (Instr.loadAt 57 t27) w15 fun t28 w16 =>
        GoN Try.prog (callFunc 24 #[room_0]) w16 fun t31 w17 =>
        Run Try.prog (Instr.extract t31 0) w17 fun t32 w18 =>
        Run Try.prog (Instr.extract t31 1) w18 fun t33 w19 =>
        Run Try.prog (binSem Go.BinOp.neq 27 (Go.Operand.tmp 34) (Go.Operand.const Go.Value.nilIface) t33 Go.Value.nilIface) w19 fun t35 w20 =>
        CondP t35 2 (fun (k11 : N2) =>
          Run Try.prog (Instr.makeInterface 70 (Go.Value.int Go.IntKind.i64 1)) w20 fun t36 w21 =>
          R (.tuple #[(Go.Value.pointer none), t36]) w21)
        (fun (k12 : N2) =>
          k12 t4 t5 w20)
        (fun (t4 : Value) (t5 : Value) (w22 : World) => 
        GoN Try.prog (callFunc 24 #[room_0]) w22 fun t39 w23 =>
        Run Try.prog (Instr.extract t39 0) w23 fun t40 w24 =>
        Run Try.prog (Instr.extract t39 1) w24 fun t41 w25 =>
        Run Try.prog (binSem Go.BinOp.neq 27 (Go.Operand.tmp 42) (Go.Operand.const Go.Value.nilIface) t41 Go.Value.nilIface) w25 fun t43 w26 =>
        CondP t43 2 (fun (k13 : N2) =>
          Run Try.prog (Instr.makeInterface 70 (Go.Value.int Go.IntKind.i64 1)) w26 fun t44 w27 =>
          R (.tuple #[(Go.Value.pointer none), t44]) w27)
        (fun (k14 : N2) =>
          k14 t4 t5 w26)
        (fun (t4 : Value) (t5 : Value) (w28 : World) => 
        ∀ w29, Ext w28 w29 →
        DrawE (fun (E : World → Prop) =>
        RunG Try.prog (nilSem t22) E fun t47 =>
        RunG Try.prog (Instr.fieldAt 74 t47 0) E fun t48 =>
        RunG Try.prog (Instr.loadAt 71 t48) E fun t49 =>
        GoN Try.prog (callFunc 25 #[t28]) w29 fun t53 w30 => E w30 ∧
        RunG Try.prog (Instr.build 81 #[(0, t32), (1, t40), (2, t53)]) E fun t54 =>
        Run Try.prog (Instr.box 81 t54) w30 fun t55 w31 => E w31 ∧
        Run Try.prog (Instr.buildSlice 71 1 #[(0, t55)]) w31 fun t56 w32 => E w32 ∧
        Run Try.prog (Builtin.append_ #[71, 71] 71 #[t49, t56]) w32 fun t57 w33 => E w33 ∧
        Run Try.prog (nilSem t22) w33 fun t58 w34 =>
        Run Try.prog (Instr.fieldAt 74 t58 0) w34 fun t59 w35 =>
        RunU Try.prog (Instr.storeAt 71 t59 t57) w35 fun w36 =>
        k10 t4 t5 w36) w29)))
      (fun (t4 : Value) (t5 : Value) (w37 : World) => 
      Run Try.prog (binSem Go.BinOp.add 3 (Go.Operand.tmp 25) (Go.Operand.const (Go.Value.int Go.IntKind.i64 1)) t25 (Go.Value.int Go.IntKind.i64 1)) w37 fun t60 w38 =>
      k7 t4 t5 t60 w38))))
    [t4, t5, (Go.Value.int Go.IntKind.i64 0)] w11)
  (fun (t4 : Value) (t5 : Value) (t25 : Value) (w39 : World) => 
  R (.tuple #[t22, Go.Value.nilIface]) w39))
theorem S8_eq (room_0 rules_1 : Value) (w : World) (R : Value → World → Prop) : vcFn Try.prog [] Try.f8 [room_0, rules_1] w R = S8 room_0 rules_1 w R := by kernel_rfl
theorem D8 {room_0 rules_1 : Value} {w : World} {R : Value → World → Prop} (h : S8 room_0 rules_1 w R) : Does Try.prog 8 [room_0, rules_1] w R :=
  does_of_vc [] mixed Try.func8 (by kernel_rfl) (by kernel_rfl) ((S8_eq room_0 rules_1 w R).mpr h)

/-- busbar/busbarkit.Num -/
def S9 (e_0 : Value) (w : World) (R : Value → World → Prop) : Prop :=
  Run Try.prog (binSem Go.BinOp.eql 27 (Go.Operand.tmp 5) (Go.Operand.const Go.Value.nilIface) e_0 Go.Value.nilIface) w fun t6 w1 =>
  CondP t6 1 (fun (k1 : N1) =>
    R (Go.Value.int Go.IntKind.i64 0) w1)
  (fun (k2 : N1) =>
    k2 (Go.Value.int Go.IntKind.i64 0) w1)
  (fun (t2 : Value) (w2 : World) => 
  JoinP 3 (fun (k3 : N3) =>
    LoopP 3 (fun (k4 : N3) => (fun (t2 : Value) (found_3 : Value) (n_4 : Value) (w3 : World) => 
      Run Try.prog (binSem Go.BinOp.leq 3 (Go.Operand.tmp 7) (Go.Operand.const (Go.Value.int Go.IntKind.i64 26)) n_4 (Go.Value.int Go.IntKind.i64 26)) w3 fun t8 w4 =>
      CondP t8 0 (fun (k5 : N0) =>
        k5 w4)
      (fun (k6 : N0) =>
        k3 t2 found_3 n_4 w4)
      (fun (w5 : World) => 
      JoinP 2 (fun (k7 : N2) =>
        Run Try.prog (Instr.makeInterface 70 n_4) w5 fun t13 w6 =>
        GoN Try.prog (callFunc 26 #[e_0, t13]) w6 fun t14 w7 =>
        CondP t14 2 (fun (k8 : N2) =>
          Run Try.prog (binSem Go.BinOp.neq 3 (Go.Operand.tmp 15) (Go.Operand.const (Go.Value.int Go.IntKind.i64 0)) found_3 (Go.Value.int Go.IntKind.i64 0)) w7 fun t16 w8 =>
          CondP t16 1 (fun (k9 : N1) =>
            R (Go.Value.int Go.IntKind.i64 (-1)) w8)
          (fun (k10 : N1) =>
            k10 t2 w8)
          (fun (t2 : Value) (w9 : World) => 
          k8 t2 n_4 w9))
        (fun (k11 : N2) =>
          k11 t2 found_3 w7)
        (fun (t2 : Value) (found_3 : Value) (w10 : World) => 
        k7 t2 found_3 w10))
      (fun (t2 : Value) (found_3 : Value) (w11 : World) => 
      Run Try.prog (binSem Go.BinOp.add 3 (Go.Operand.tmp 9) (Go.Operand.const (Go.Value.int Go.IntKind.i64 1)) n_4 (Go.Value.int Go.IntKind.i64 1)) w11 fun t10 w12 =>
      k4 t2 found_3 t10 w12))))
    [t2, (Go.Value.int Go.IntKind.i64 0), (Go.Value.int Go.IntKind.i64 1)] w2)
  (fun (t2 : Value) (found_3 : Value) (n_4 : Value) (w13 : World) => 
  Run Try.prog (binSem Go.BinOp.eql 3 (Go.Operand.tmp 18) (Go.Operand.const (Go.Value.int Go.IntKind.i64 0)) found_3 (Go.Value.int Go.IntKind.i64 0)) w13 fun t19 w14 =>
  GuardP t19 false (fun (k12 : N1) => k12 e_0 w14) w14 fun t21 w15 =>
  GuardP t19 false (fun (k13 : N1) => Run Try.prog (Instr.makeInterface 70 (Go.Value.int Go.IntKind.i64 0)) w15 k13) w15 fun t22 w16 =>
  GuardP t19 false (fun (k14 : N1) => GoN Try.prog (callFunc 26 #[t21, t22]) w16 k14) w16 fun t23 w17 =>
  PickP t19 (Go.Value.bool true) t23 w17 fun t24 w18 =>
  CondP t24 1 (fun (k15 : N1) =>
    R (Go.Value.int Go.IntKind.i64 (-1)) w18)
  (fun (k16 : N1) =>
    k16 t2 w18)
  (fun (t2 : Value) (w19 : World) => 
  R found_3 w19)))
theorem S9_eq (e_0 : Value) (w : World) (R : Value → World → Prop) : vcFn Try.prog [] Try.f9 [e_0] w R = S9 e_0 w R := by kernel_rfl
theorem D9 {e_0 : Value} {w : World} {R : Value → World → Prop} (h : S9 e_0 w R) : Does Try.prog 9 [e_0] w R :=
  does_of_vc [] mixed Try.func9 (by kernel_rfl) (by kernel_rfl) ((S9_eq e_0 w R).mpr h)

/-- (*busbar/bus.Bus).Send -/
def S10 (b_0 n_1 f_2 : Value) (w : World) (R : Value → World → Prop) : Prop :=
  Run Try.prog (Instr.box 35 f_2) w fun f_5 w1 =>
  GoN Try.prog (callFunc 27 #[b_0, n_1]) w1 fun t11 w2 =>
  Run Try.prog (Op.unary Go.UnOp.not t11) w2 fun t12 w3 =>
  CondP t12 1 (fun (k1 : N1) =>
    Run Try.prog (Instr.makeInterface 70 (Go.Value.int Go.IntKind.i64 1)) w3 fun t13 w4 =>
    R t13 w4)
  (fun (k2 : N1) =>
    k2 Go.Value.nilIface w3)
  (fun (t6 : Value) (w5 : World) => 
  Run Try.prog (Instr.loadAt 35 f_5) w5 fun t15 w6 =>
  GoN Try.prog (callFunc 17 #[t15]) w6 fun t16 w7 =>
  Run Try.prog (Instr.extract t16 0) w7 fun t17 w8 =>
  Run Try.prog (Instr.extract t16 1) w8 fun t18 w9 =>
  Run Try.prog (binSem Go.BinOp.neq 27 (Go.Operand.tmp 19) (Go.Operand.const Go.Value.nilIface) t18 Go.Value.nilIface) w9 fun t20 w10 =>
  CondP t20 1 (fun (k3 : N1) =>
    R t18 w10)
  (fun (k4 : N1) =>
    k4 t6 w10)
  (fun (t6 : Value) (w11 : World) => 
  ∀ w12, Ext w11 w12 →
  DrawE (fun (E : World → Prop) =>
  RunG Try.prog (nilSem b_0) E fun t23 =>
  RunG Try.prog (Instr.fieldAt 74 t23 0) E fun t24 =>
  RunG Try.prog (Instr.loadAt 71 t24) E fun t25 =>
  RunG Try.prog (Instr.indexAt 71 t25 n_1) E fun t27 =>
  RunG Try.prog (Instr.loadAt 78 t27) E fun t28 =>
  RunG Try.prog (nilSem t28) E fun t29 =>
  RunG Try.prog (Instr.fieldAt 81 t29 0) E fun t30 =>
  RunG Try.prog (Instr.loadAt 75 t30) E fun t31 =>
  RunG Try.prog (Instr.loadAt 35 f_5) E fun t32 =>
  GoN Try.prog (callFunc 29 #[t32]) w12 fun t33 w13 => E w13 ∧
  GoN Try.prog (callFunc 28 #[t31, t33]) w13 fun t34 w14 => E w14 ∧
  R t34 w14) w12))
theorem S10_eq (b_0 n_1 f_2 : Value) (w : World) (R : Value → World → Prop) : vcFn Try.prog [6] Try.f10 [b_0, n_1, f_2] w R = S10 b_0 n_1 f_2 w R := by kernel_rfl
theorem D10 {b_0 n_1 f_2 : Value} {w : World} {R : Value → World → Prop} (h : S10 b_0 n_1 f_2 w R) : Does Try.prog 10 [b_0, n_1, f_2] w R :=
  does_of_vc [6] mixed Try.func10 (by kernel_rfl) (by kernel_rfl) ((S10_eq b_0 n_1 f_2 w R).mpr h)

/-- busbar/busbarref0.CopyFrame -/
def S11 (x_0 : Value) (w : World) (R : Value → World → Prop) : Prop :=
  Run Try.prog (Instr.box 35 x_0) w fun x_1 w1 =>
  Run Try.prog (Instr.alloc 35 true (.tuple #[])) w1 fun t2 w2 =>
  Run Try.prog (Instr.loadAt 35 x_1) w2 fun t4 w3 =>
  Run Try.prog (Instr.alloc 35 true (.tuple #[])) w3 fun y_3 w4 =>
  RunU Try.prog (Instr.storeAt 35 y_3 t4) w4 fun w5 =>
  Run Try.prog (Instr.fieldAt 35 x_1 2) w5 fun t5 w6 =>
  Run Try.prog (Instr.loadAt 33 t5) w6 fun t6 w7 =>
  GoN Try.prog (callFunc 30 #[t6]) w7 fun t7 w8 =>
  Run Try.prog (Instr.fieldAt 35 y_3 2) w8 fun t8 w9 =>
  RunU Try.prog (Instr.storeAt 33 t8 t7) w9 fun w10 =>
  Run Try.prog (Instr.loadAt 35 y_3) w10 fun t9 w11 =>
  RunU Try.prog (Instr.storeAt 35 t2 t9) w11 fun w12 =>
  resK Try.prog t2 35 w12 fun r0 =>
  R r0 w12
theorem S11_eq (x_0 : Value) (w : World) (R : Value → World → Prop) : vcFn Try.prog [] Try.f11 [x_0] w R = S11 x_0 w R := by kernel_rfl
theorem D11 {x_0 : Value} {w : World} {R : Value → World → Prop} (h : S11 x_0 w R) : Does Try.prog 11 [x_0] w R :=
  does_of_vc [] mixed Try.func11 (by kernel_rfl) (by kernel_rfl) ((S11_eq x_0 w R).mpr h)

/-- busbar/busbarlaw25.five -/
def S12 (l_0 : Value) (w : World) (R : Value → World → Prop) : Prop :=
  JoinP 2 (fun (k1 : N2) =>
    LoopP 2 (fun (k2 : N2) => (fun (out_3 : Value) (i_4 : Value) (w1 : World) => 
      Run Try.prog (Builtin.len_ #[36] 3 #[l_0]) w1 fun t7 w2 =>
      Run Try.prog (binSem Go.BinOp.lss 3 (Go.Operand.tmp 5) (Go.Operand.tmp 7) i_4 t7) w2 fun t8 w3 =>
      GuardP t8 true (fun (k3 : N1) => k3 i_4 w3) w3 fun t10 w4 =>
      GuardP t8 true (fun (k4 : N1) => Run Try.prog (binSem Go.BinOp.lss 3 (Go.Operand.tmp 10) (Go.Operand.const (Go.Value.int Go.IntKind.i64 5)) t10 (Go.Value.int Go.IntKind.i64 5)) w4 k4) w4 fun t11 w5 =>
      PickP t8 t11 (Go.Value.bool false) w5 fun t12 w6 =>
      CondP t12 0 (fun (k5 : N0) =>
        k5 w6)
      (fun (k6 : N0) =>
        k1 out_3 i_4 w6)
      (fun (w7 : World) => 
      JoinP 1 (fun (k7 : N1) =>
        Run Try.prog (Instr.indexAt 36 l_0 i_4) w7 fun t18 w8 =>
        Run Try.prog (Instr.loadAt 3 t18) w8 fun t19 w9 =>
        Run Try.prog (Instr.buildSlice 36 1 #[(0, t19)]) w9 fun t20 w10 =>
        Run Try.prog (Builtin.append_ #[36, 36] 36 #[out_3, t20]) w10 fun t21 w11 =>
        k7 t21 w11)
      (fun (out_3 : Value) (w12 : World) => 
      Run Try.prog (binSem Go.BinOp.add 3 (Go.Operand.tmp 13) (Go.Operand.const (Go.Value.int Go.IntKind.i64 1)) i_4 (Go.Value.int Go.IntKind.i64 1)) w12 fun t14 w13 =>
      k2 out_3 t14 w13))))
    [(Go.Value.slice none 0 0), (Go.Value.int Go.IntKind.i64 0)] w)
  (fun (out_3 : Value) (i_4 : Value) (w14 : World) => 
  R out_3 w14)
theorem S12_eq (l_0 : Value) (w : World) (R : Value → World → Prop) : vcFn Try.prog [] Try.f12 [l_0] w R = S12 l_0 w R := by kernel_rfl
theorem D12 {l_0 : Value} {w : World} {R : Value → World → Prop} (h : S12 l_0 w R) : Does Try.prog 12 [l_0] w R :=
  does_of_vc [] mixed Try.func12 (by kernel_rfl) (by kernel_rfl) ((S12_eq l_0 w R).mpr h)

/-- (*busbar/bus.Bus).Tick -/
def S13 (b_0 w_1 : Value) (w : World) (R : Value → World → Prop) : Prop :=
  Run Try.prog (Instr.box 38 w_1) w fun w_3 w1 =>
  GoN Try.prog (callFunc 31 #[b_0]) w1 fun t15 w2 =>
  Run Try.prog (Instr.extract t15 0) w2 fun t16 w3 =>
  Run Try.prog (Instr.extract t15 1) w3 fun t17 w4 =>
  Run Try.prog (Instr.alloc 35 true (.tuple #[])) w4 fun f_6 w5 =>
  RunU Try.prog (Instr.storeAt 35 f_6 t17) w5 fun w6 =>
  Run Try.prog (binSem Go.BinOp.lss 3 (Go.Operand.tmp 18) (Go.Operand.const (Go.Value.int Go.IntKind.i64 0)) t16 (Go.Value.int Go.IntKind.i64 0)) w6 fun t19 w7 =>
  GuardP t19 true (fun (k1 : N1) => k1 b_0 w7) w7 fun t21 w8 =>
  GuardP t19 true (fun (k2 : N1) => Run Try.prog (nilSem t21) w8 k2) w8 fun t22 w9 =>
  GuardP t19 true (fun (k3 : N1) => Run Try.prog (Instr.fieldAt 74 t22 1) w9 k3) w9 fun t23 w10 =>
  GuardP t19 true (fun (k4 : N1) => Run Try.prog (Instr.loadAt 72 t23) w10 k4) w10 fun t24 w11 =>
  GuardP t19 true (fun (k5 : N1) => Run Try.prog (Builtin.len_ #[72] 3 #[t24]) w11 k5) w11 fun t25 w12 =>
  GuardP t19 true (fun (k6 : N1) => Run Try.prog (binSem Go.BinOp.eql 3 (Go.Operand.tmp 25) (Go.Operand.const (Go.Value.int Go.IntKind.i64 0)) t25 (Go.Value.int Go.IntKind.i64 0)) w12 k6) w12 fun t26 w13 =>
  PickP t19 t26 (Go.Value.bool false) w13 fun t27 w14 =>
  CondP t27 1 (fun (k7 : N1) =>
    Run Try.prog (Instr.makeInterface 70 (Go.Value.int Go.IntKind.i64 25)) w14 fun t28 w15 =>
    R t28 w15)
  (fun (k8 : N1) =>
    k8 Go.Value.nilIface w14)
  (fun (t4 : Value) (w16 : World) => 
  Run Try.prog (binSem Go.BinOp.geq 3 (Go.Operand.tmp 29) (Go.Operand.const (Go.Value.int Go.IntKind.i64 0)) t16 (Go.Value.int Go.IntKind.i64 0)) w16 fun t30 w17 =>
  CondP t30 2 (fun (k9 : N2) =>
    Run Try.prog (Instr.loadAt 35 f_6) w17 fun t34 w18 =>
    Run Try.prog (Instr.loadAt 38 w_3) w18 fun t35 w19 =>
    GoN Try.prog (callFunc 32 #[b_0, t16, t34, t35]) w19 fun t36 w20 =>
    Run Try.prog (Instr.extract t36 0) w20 fun t37 w21 =>
    Run Try.prog (Instr.extract t36 1) w21 fun t38 w22 =>
    Run Try.prog (binSem Go.BinOp.neq 27 (Go.Operand.tmp 39) (Go.Operand.const Go.Value.nilIface) t38 Go.Value.nilIface) w22 fun t40 w23 =>
    CondP t40 1 (fun (k10 : N1) =>
      R t38 w23)
    (fun (k11 : N1) =>
      k11 t4 w23)
    (fun (t4 : Value) (w24 : World) => 
    k9 t4 t37 w24))
  (fun (k12 : N2) =>
    k12 t4 (Go.Value.slice none 0 0) w17)
  (fun (t4 : Value) (more_7 : Value) (w25 : World) => 
  Run Try.prog (nilSem b_0) w25 fun t44 w26 =>
  Run Try.prog (Instr.fieldAt 74 t44 1) w26 fun t45 w27 =>
  Run Try.prog (Instr.loadAt 72 t45) w27 fun t46 w28 =>
  Run Try.prog (Builtin.len_ #[72] 3 #[t46]) w28 fun t47 w29 =>
  JoinP 2 (fun (k13 : N2) =>
    LoopP 2 (fun (k14 : N2) => (fun (still_10 : Value) (t48 : Value) (w30 : World) => 
      Run Try.prog (binSem Go.BinOp.lss 3 (Go.Operand.tmp 48) (Go.Operand.tmp 47) t48 t47) w30 fun t49 w31 =>
      CondP t49 0 (fun (k15 : N0) =>
        k15 w31)
      (fun (k16 : N0) =>
        k13 still_10 t48 w31)
      (fun (w32 : World) => 
      JoinP 1 (fun (k17 : N1) =>
        Run Try.prog (Instr.indexAt 72 t46 t48) w32 fun t50 w33 =>
        Run Try.prog (Instr.loadAt 91 t50) w33 fun t51 w34 =>
        Run Try.prog (Instr.alloc 91 true (.tuple #[])) w34 fun x_12 w35 =>
        RunU Try.prog (Instr.storeAt 91 x_12 t51) w35 fun w36 =>
        Run Try.prog (Instr.fieldAt 91 x_12 3) w36 fun t52 w37 =>
        Run Try.prog (Instr.loadAt 3 t52) w37 fun t53 w38 =>
        Run Try.prog (binSem Go.BinOp.sub 3 (Go.Operand.tmp 53) (Go.Operand.const (Go.Value.int Go.IntKind.i64 1)) t53 (Go.Value.int Go.IntKind.i64 1)) w38 fun t54 w39 =>
        Run Try.prog (Instr.fieldAt 91 x_12 3) w39 fun t55 w40 =>
        RunU Try.prog (Instr.storeAt 3 t55 t54) w40 fun w41 =>
        Run Try.prog (Instr.fieldAt 91 x_12 3) w41 fun t56 w42 =>
        Run Try.prog (Instr.loadAt 3 t56) w42 fun t57 w43 =>
        Run Try.prog (binSem Go.BinOp.gtr 3 (Go.Operand.tmp 57) (Go.Operand.const (Go.Value.int Go.IntKind.i64 0)) t57 (Go.Value.int Go.IntKind.i64 0)) w43 fun t58 w44 =>
        CondP t58 1 (fun (k18 : N1) =>
          Run Try.prog (Instr.loadAt 91 x_12) w44 fun t60 w45 =>
          Run Try.prog (Instr.buildSlice 72 1 #[(0, t60)]) w45 fun t61 w46 =>
          Run Try.prog (Builtin.append_ #[72, 72] 72 #[still_10, t61]) w46 fun t62 w47 =>
          k18 t62 w47)
        (fun (k19 : N1) =>
          Run Try.prog (Instr.loadAt 91 x_12) w44 fun t64 w48 =>
          GoN Try.prog (callFunc 33 #[b_0, t64]) w48 fun t65 w49 =>
          k19 still_10 w49)
        (fun (still_10 : Value) (w50 : World) => 
        k17 still_10 w50))
      (fun (still_10 : Value) (w51 : World) => 
      Run Try.prog (binSem Go.BinOp.add 3 (Go.Operand.tmp 48) (Go.Operand.const (Go.Value.int Go.IntKind.i64 1)) t48 (Go.Value.int Go.IntKind.i64 1)) w51 fun t66 w52 =>
      k14 still_10 t66 w52))))
    [(Go.Value.slice none 0 0), (Go.Value.int Go.IntKind.i64 0)] w29)
  (fun (still_10 : Value) (t48 : Value) (w53 : World) => 
  Run Try.prog (Builtin.append_ #[72, 72] 72 #[still_10, more_7]) w53 fun t70 w54 =>
  Run Try.prog (nilSem b_0) w54 fun t71 w55 =>
  Run Try.prog (Instr.fieldAt 74 t71 1) w55 fun t72 w56 =>
  RunU Try.prog (Instr.storeAt 72 t72 t70) w56 fun w57 =>
  R Go.Value.nilIface w57)))
theorem S13_eq (b_0 w_1 : Value) (w : World) (R : Value → World → Prop) : vcFn Try.prog [] Try.f13 [b_0, w_1] w R = S13 b_0 w_1 w R := by kernel_rfl
theorem D13 {b_0 w_1 : Value} {w : World} {R : Value → World → Prop} (h : S13 b_0 w_1 w R) : Does Try.prog 13 [b_0, w_1] w R :=
  does_of_vc [] mixed Try.func13 (by kernel_rfl) (by kernel_rfl) ((S13_eq b_0 w_1 w R).mpr h)

/-- (*busbar/bus.Bus).Take -/
def S14 (b_0 n_1 : Value) (w : World) (R : Value → World → Prop) : Prop :=
  Run Try.prog (Instr.alloc 35 true (.tuple #[])) w fun t4 w1 =>
  GoN Try.prog (callFunc 27 #[b_0, n_1]) w1 fun t8 w2 =>
  Run Try.prog (Op.unary Go.UnOp.not t8) w2 fun t9 w3 =>
  CondP t9 1 (fun (k1 : N1) =>
    Run Try.prog (Instr.build 35 #[]) w3 fun t10 w4 =>
    Run Try.prog (Instr.makeInterface 70 (Go.Value.int Go.IntKind.i64 1)) w4 fun t11 w5 =>
    RunU Try.prog (Instr.storeAt 35 t4 t10) w5 fun w6 =>
    resK Try.prog t4 35 w6 fun r0 =>
    R (.tuple #[r0, t11]) w6)
  (fun (k2 : N1) =>
    k2 Go.Value.nilIface w3)
  (fun (t5 : Value) (w7 : World) => 
  Run Try.prog (nilSem b_0) w7 fun t13 w8 =>
  Run Try.prog (Instr.fieldAt 74 t13 0) w8 fun t14 w9 =>
  Run Try.prog (Instr.loadAt 71 t14) w9 fun t15 w10 =>
  Run Try.prog (Instr.indexAt 71 t15 n_1) w10 fun t17 w11 =>
  Run Try.prog (Instr.loadAt 78 t17) w11 fun t18 w12 =>
  Run Try.prog (nilSem t18) w12 fun t19 w13 =>
  Run Try.prog (Instr.fieldAt 81 t19 1) w13 fun t20 w14 =>
  Run Try.prog (Instr.loadAt 75 t20) w14 fun t21 w15 =>
  GoN Try.prog (callFunc 34 #[t21]) w15 fun t22 w16 =>
  Run Try.prog (Instr.extract t22 0) w16 fun t23 w17 =>
  Run Try.prog (Instr.extract t22 1) w17 fun t24 w18 =>
  RunU Try.prog (Instr.storeAt 35 t4 t23) w18 fun w19 =>
  resK Try.prog t4 35 w19 fun r0 =>
  R (.tuple #[r0, t24]) w19)
theorem S14_eq (b_0 n_1 : Value) (w : World) (R : Value → World → Prop) : vcFn Try.prog [] Try.f14 [b_0, n_1] w R = S14 b_0 n_1 w R := by kernel_rfl
theorem D14 {b_0 n_1 : Value} {w : World} {R : Value → World → Prop} (h : S14 b_0 n_1 w R) : Does Try.prog 14 [b_0, n_1] w R :=
  does_of_vc [] mixed Try.func14 (by kernel_rfl) (by kernel_rfl) ((S14_eq b_0 n_1 w R).mpr h)

/-- busbar/busbarlaw25.among -/
def S15 (l_0 n_1 f_2 : Value) (w : World) (R : Value → World → Prop) : Prop :=
  Run Try.prog (Instr.box 35 f_2) w fun f_5 w1 =>
  JoinP 2 (fun (k1 : N2) =>
    LoopP 2 (fun (k2 : N2) => (fun (t6 : Value) (i_7 : Value) (w2 : World) => 
      Run Try.prog (Builtin.len_ #[31] 3 #[l_0]) w2 fun t10 w3 =>
      Run Try.prog (binSem Go.BinOp.lss 3 (Go.Operand.tmp 8) (Go.Operand.tmp 10) i_7 t10) w3 fun t11 w4 =>
      CondP t11 0 (fun (k3 : N0) =>
        k3 w4)
      (fun (k4 : N0) =>
        k1 t6 i_7 w4)
      (fun (w5 : World) => 
      JoinP 1 (fun (k5 : N1) =>
        ∀ w6, Ext w5 w6 →
        RunQ Try.prog (Instr.indexAt 31 l_0 i_7) w6 fun t16 =>
        RunQ Try.prog (Instr.fieldAt 44 t16 0) w6 fun t17 =>
        RunQ Try.prog (Instr.loadAt 3 t17) w6 fun t18 =>
        RunQ Try.prog (binSem Go.BinOp.neq 3 (Go.Operand.tmp 18) (Go.Operand.tmp 19) t18 n_1) w6 fun t20 =>
        GuardQ t20 true (fun (k6 : Value → Prop) => k6 l_0) fun t22 =>
        GuardQ t20 true (fun (k7 : Value → Prop) => k7 i_7) fun t23 =>
        GuardQ t20 true (fun (k8 : Value → Prop) => RunQ Try.prog (Instr.indexAt 31 t22 t23) w6 k8) fun t24 =>
        GuardQ t20 true (fun (k9 : Value → Prop) => RunQ Try.prog (Instr.fieldAt 44 t24 1) w6 k9) fun t25 =>
        GuardQ t20 true (fun (k10 : Value → Prop) => RunQ Try.prog (Instr.loadAt 35 t25) w6 k10) fun t26 =>
        GuardQ t20 true (fun (k11 : Value → Prop) => RunQ Try.prog (Instr.loadAt 35 f_5) w6 k11) fun t27 =>
        GuardP t20 true (fun (k12 : N1) => GoN Try.prog (callFunc 20 #[t26, t27]) w6 k12) w6 fun t28 w7 => Ext w6 w7 ∧
        PickQ t20 t28 (Go.Value.bool false) fun t29 =>
        CondP t29 1 (fun (k13 : N1) =>
          R (Go.Value.bool true) w7)
        (fun (k14 : N1) =>
          k14 t6 w7)
        (fun (t6 : Value) (w8 : World) => 
        k5 t6 w8))
      (fun (t6 : Value) (w9 : World) => 
      Run Try.prog (binSem Go.BinOp.add 3 (Go.Operand.tmp 12) (Go.Operand.const (Go.Value.int Go.IntKind.i64 1)) i_7 (Go.Value.int Go.IntKind.i64 1)) w9 fun t13 w10 =>
      k2 t6 t13 w10))))
    [(Go.Value.bool false), (Go.Value.int Go.IntKind.i64 0)] w1)
  (fun (t6 : Value) (i_7 : Value) (w11 : World) => 
  R (Go.Value.bool false) w11)
theorem S15_eq (l_0 n_1 f_2 : Value) (w : World) (R : Value → World → Prop) : vcFn Try.prog [] Try.f15 [l_0, n_1, f_2] w R = S15 l_0 n_1 f_2 w R := by kernel_rfl
theorem D15 {l_0 n_1 f_2 : Value} {w : World} {R : Value → World → Prop} (h : S15 l_0 n_1 f_2 w R) : Does Try.prog 15 [l_0, n_1, f_2] w R :=
  does_of_vc [] mixed Try.func15 (by kernel_rfl) (by kernel_rfl) ((S15_eq l_0 n_1 f_2 w R).mpr h)

/-- busbar/busbarkit.Pick -/
def S16 (k_0 n_1 : Value) (w : World) (R : Value → World → Prop) : Prop :=
  Run Try.prog (binSem Go.BinOp.lss 3 (Go.Operand.tmp 5) (Go.Operand.const (Go.Value.int Go.IntKind.i64 1)) n_1 (Go.Value.int Go.IntKind.i64 1)) w fun t6 w1 =>
  CondP t6 1 (fun (k1 : N1) =>
    R (Go.Value.int Go.IntKind.i64 0) w1)
  (fun (k2 : N1) =>
    k2 (Go.Value.int Go.IntKind.i64 0) w1)
  (fun (t4 : Value) (w2 : World) => 
  Run Try.prog (binSem Go.BinOp.rem 3 (Go.Operand.tmp 7) (Go.Operand.tmp 8) k_0 n_1) w2 fun t9 w3 =>
  Run Try.prog (binSem Go.BinOp.lss 3 (Go.Operand.tmp 10) (Go.Operand.const (Go.Value.int Go.IntKind.i64 0)) t9 (Go.Value.int Go.IntKind.i64 0)) w3 fun t11 w4 =>
  CondP t11 1 (fun (k3 : N1) =>
    Run Try.prog (binSem Go.BinOp.add 3 (Go.Operand.tmp 12) (Go.Operand.tmp 13) t9 n_1) w4 fun t14 w5 =>
    k3 t14 w5)
  (fun (k4 : N1) =>
    k4 t9 w4)
  (fun (k_0 : Value) (w6 : World) => 
  R k_0 w6))
theorem S16_eq (k_0 n_1 : Value) (w : World) (R : Value → World → Prop) : vcFn Try.prog [] Try.f16 [k_0, n_1] w R = S16 k_0 n_1 w R := by kernel_rfl
theorem D16 {k_0 n_1 : Value} {w : World} {R : Value → World → Prop} (h : S16 k_0 n_1 w R) : Does Try.prog 16 [k_0, n_1] w R :=
  does_of_vc [] mixed Try.func16 (by kernel_rfl) (by kernel_rfl) ((S16_eq k_0 n_1 w R).mpr h)

/-- busbar/frame.Encode -/
def S17 (f_0 : Value) (w : World) (R : Value → World → Prop) : Prop :=
  Run Try.prog (Instr.box 35 f_0) w fun f_1 w1 =>
  Run Try.prog (Instr.loadAt 35 f_1) w1 fun t7 w2 =>
  GoN Try.prog (callFunc 35 #[t7]) w2 fun t8 w3 =>
  Run Try.prog (Instr.extract t8 0) w3 fun t9 w4 =>
  Run Try.prog (Instr.extract t8 1) w4 fun t10 w5 =>
  Run Try.prog (binSem Go.BinOp.neq 27 (Go.Operand.tmp 11) (Go.Operand.const Go.Value.nilIface) t10 Go.Value.nilIface) w5 fun t12 w6 =>
  CondP t12 2 (fun (k1 : N2) =>
    R (.tuple #[(Go.Value.slice none 0 0), t10]) w6)
  (fun (k2 : N2) =>
    k2 (Go.Value.slice none 0 0) Go.Value.nilIface w6)
  (fun (t2 : Value) (t3 : Value) (w7 : World) => 
  GoN Try.prog (callFunc 36 #[t9]) w7 fun t15 w8 =>
  R (.tuple #[t15, Go.Value.nilIface]) w8)
theorem S17_eq (f_0 : Value) (w : World) (R : Value → World → Prop) : vcFn Try.prog [] Try.f17 [f_0] w R = S17 f_0 w R := by kernel_rfl
theorem D17 {f_0 : Value} {w : World} {R : Value → World → Prop} (h : S17 f_0 w R) : Does Try.prog 17 [f_0] w R :=
  does_of_vc [] mixed Try.func17 (by kernel_rfl) (by kernel_rfl) ((S17_eq f_0 w R).mpr h)

/-- busbar/busbarlaw25.goes -/
def S18 (l_0 : Value) (w : World) (R : Value → World → Prop) : Prop :=
  JoinP 2 (fun (k1 : N2) =>
    LoopP 2 (fun (k2 : N2) => (fun (at_3 : Value) (i_4 : Value) (w1 : World) => 
      Run Try.prog (Builtin.len_ #[31] 3 #[l_0]) w1 fun t9 w2 =>
      Run Try.prog (binSem Go.BinOp.lss 3 (Go.Operand.tmp 7) (Go.Operand.tmp 9) i_4 t9) w2 fun t10 w3 =>
      CondP t10 0 (fun (k3 : N0) =>
        k3 w3)
      (fun (k4 : N0) =>
        k1 at_3 i_4 w3)
      (fun (w4 : World) => 
      JoinP 1 (fun (k5 : N1) =>
        JoinP 2 (fun (k6 : N2) =>
          LoopP 2 (fun (k7 : N2) => (fun (first_5 : Value) (k_6 : Value) (w5 : World) => 
            Run Try.prog (binSem Go.BinOp.lss 3 (Go.Operand.tmp 13) (Go.Operand.tmp 14) k_6 i_4) w5 fun t15 w6 =>
            CondP t15 0 (fun (k8 : N0) =>
              k8 w6)
            (fun (k9 : N0) =>
              k6 first_5 k_6 w6)
            (fun (w7 : World) => 
            JoinP 1 (fun (k10 : N1) =>
              ∀ w8, Ext w7 w8 →
              GuardQ first_5 true (fun (k11 : Value → Prop) => k11 l_0) fun t20 =>
              GuardQ first_5 true (fun (k12 : Value → Prop) => k12 k_6) fun t21 =>
              GuardQ first_5 true (fun (k13 : Value → Prop) => RunQ Try.prog (Instr.indexAt 31 t20 t21) w8 k13) fun t22 =>
              GuardQ first_5 true (fun (k14 : Value → Prop) => RunQ Try.prog (Instr.fieldAt 44 t22 0) w8 k14) fun t23 =>
              GuardQ first_5 true (fun (k15 : Value → Prop) => RunQ Try.prog (Instr.loadAt 3 t23) w8 k15) fun t24 =>
              GuardQ first_5 true (fun (k16 : Value → Prop) => k16 l_0) fun t25 =>
              GuardQ first_5 true (fun (k17 : Value → Prop) => k17 i_4) fun t26 =>
              GuardQ first_5 true (fun (k18 : Value → Prop) => RunQ Try.prog (Instr.indexAt 31 t25 t26) w8 k18) fun t27 =>
              GuardQ first_5 true (fun (k19 : Value → Prop) => RunQ Try.prog (Instr.fieldAt 44 t27 0) w8 k19) fun t28 =>
              GuardQ first_5 true (fun (k20 : Value → Prop) => RunQ Try.prog (Instr.loadAt 3 t28) w8 k20) fun t29 =>
              GuardQ first_5 true (fun (k21 : Value → Prop) => RunQ Try.prog (binSem Go.BinOp.neq 3 (Go.Operand.tmp 24) (Go.Operand.tmp 29) t24 t29) w8 k21) fun t30 =>
              PickQ first_5 t30 (Go.Value.bool false) fun t31 =>
              k10 t31 w8)
            (fun (first_5 : Value) (w9 : World) => 
            Run Try.prog (binSem Go.BinOp.add 3 (Go.Operand.tmp 16) (Go.Operand.const (Go.Value.int Go.IntKind.i64 1)) k_6 (Go.Value.int Go.IntKind.i64 1)) w9 fun t17 w10 =>
            k7 first_5 t17 w10))))
          [(Go.Value.bool true), (Go.Value.int Go.IntKind.i64 0)] w4)
        (fun (first_5 : Value) (k_6 : Value) (w11 : World) => 
        ∀ w12, Ext w11 w12 →
        GuardQ first_5 true (fun (k22 : Value → Prop) => k22 at_3) fun t34 =>
        GuardQ first_5 true (fun (k23 : Value → Prop) => RunQ Try.prog (binSem Go.BinOp.lss 3 (Go.Operand.tmp 34) (Go.Operand.const (Go.Value.int Go.IntKind.i64 0)) t34 (Go.Value.int Go.IntKind.i64 0)) w12 k23) fun t35 =>
        GuardQ first_5 true (fun (k24 : Value → Prop) => k24 t35) fun t36 =>
        GuardQ t36 false (fun (k25 : Value → Prop) => k25 l_0) fun t37 =>
        GuardQ t36 false (fun (k26 : Value → Prop) => k26 i_4) fun t38 =>
        GuardQ t36 false (fun (k27 : Value → Prop) => RunQ Try.prog (Instr.indexAt 31 t37 t38) w12 k27) fun t39 =>
        GuardQ t36 false (fun (k28 : Value → Prop) => RunQ Try.prog (Instr.fieldAt 44 t39 1) w12 k28) fun t40 =>
        GuardQ t36 false (fun (k29 : Value → Prop) => RunQ Try.prog (Instr.loadAt 35 t40) w12 k29) fun t41 =>
        GuardQ t36 false (fun (k30 : Value → Prop) => k30 l_0) fun t42 =>
        GuardQ t36 false (fun (k31 : Value → Prop) => k31 at_3) fun t43 =>
        GuardQ t36 false (fun (k32 : Value → Prop) => RunQ Try.prog (Instr.indexAt 31 t42 t43) w12 k32) fun t44 =>
        GuardQ t36 false (fun (k33 : Value → Prop) => RunQ Try.prog (Instr.fieldAt 44 t44 1) w12 k33) fun t45 =>
        GuardQ t36 false (fun (k34 : Value → Prop) => RunQ Try.prog (Instr.loadAt 35 t45) w12 k34) fun t46 =>
        GuardP t36 false (fun (k35 : N1) => GoN Try.prog (callFunc 37 #[t41, t46]) w12 k35) w12 fun t47 w13 => Ext w12 w13 ∧
        GuardQ first_5 true (fun (k36 : Value → Prop) => PickQ t36 (Go.Value.bool true) t47 k36) fun t48 =>
        GuardQ first_5 true (fun (k37 : Value → Prop) => k37 t48) fun t49 =>
        GuardQ t49 false (fun (k38 : Value → Prop) => k38 l_0) fun t50 =>
        GuardQ t49 false (fun (k39 : Value → Prop) => k39 at_3) fun t51 =>
        GuardQ t49 false (fun (k40 : Value → Prop) => RunQ Try.prog (Instr.indexAt 31 t50 t51) w12 k40) fun t52 =>
        GuardQ t49 false (fun (k41 : Value → Prop) => RunQ Try.prog (Instr.fieldAt 44 t52 1) w12 k41) fun t53 =>
        GuardQ t49 false (fun (k42 : Value → Prop) => RunQ Try.prog (Instr.loadAt 35 t53) w12 k42) fun t54 =>
        GuardQ t49 false (fun (k43 : Value → Prop) => k43 l_0) fun t55 =>
        GuardQ t49 false (fun (k44 : Value → Prop) => k44 i_4) fun t56 =>
        GuardQ t49 false (fun (k45 : Value → Prop) => RunQ Try.prog (Instr.indexAt 31 t55 t56) w12 k45) fun t57 =>
        GuardQ t49 false (fun (k46 : Value → Prop) => RunQ Try.prog (Instr.fieldAt 44 t57 1) w12 k46) fun t58 =>
        GuardQ t49 false (fun (k47 : Value → Prop) => RunQ Try.prog (Instr.loadAt 35 t58) w12 k47) fun t59 =>
        GuardP t49 false (fun (k48 : N1) => GoN Try.prog (callFunc 37 #[t54, t59]) w13 k48) w13 fun t60 w14 => Ext w12 w14 ∧
        GuardQ t49 false (fun (k49 : Value → Prop) => RunQ Try.prog (Op.unary Go.UnOp.not t60) w12 k49) fun t61 =>
        GuardQ t49 false (fun (k50 : Value → Prop) => k50 t61) fun t62 =>
        GuardQ t62 true (fun (k51 : Value → Prop) => k51 l_0) fun t63 =>
        GuardQ t62 true (fun (k52 : Value → Prop) => k52 i_4) fun t64 =>
        GuardQ t62 true (fun (k53 : Value → Prop) => RunQ Try.prog (Instr.indexAt 31 t63 t64) w12 k53) fun t65 =>
        GuardQ t62 true (fun (k54 : Value → Prop) => RunQ Try.prog (Instr.fieldAt 44 t65 0) w12 k54) fun t66 =>
        GuardQ t62 true (fun (k55 : Value → Prop) => RunQ Try.prog (Instr.loadAt 3 t66) w12 k55) fun t67 =>
        GuardQ t62 true (fun (k56 : Value → Prop) => k56 l_0) fun t68 =>
        GuardQ t62 true (fun (k57 : Value → Prop) => k57 at_3) fun t69 =>
        GuardQ t62 true (fun (k58 : Value → Prop) => RunQ Try.prog (Instr.indexAt 31 t68 t69) w12 k58) fun t70 =>
        GuardQ t62 true (fun (k59 : Value → Prop) => RunQ Try.prog (Instr.fieldAt 44 t70 0) w12 k59) fun t71 =>
        GuardQ t62 true (fun (k60 : Value → Prop) => RunQ Try.prog (Instr.loadAt 3 t71) w12 k60) fun t72 =>
        GuardQ t62 true (fun (k61 : Value → Prop) => RunQ Try.prog (binSem Go.BinOp.lss 3 (Go.Operand.tmp 67) (Go.Operand.tmp 72) t67 t72) w12 k61) fun t73 =>
        GuardQ t49 false (fun (k62 : Value → Prop) => PickQ t62 t73 (Go.Value.bool false) k62) fun t74 =>
        GuardQ first_5 true (fun (k63 : Value → Prop) => PickQ t49 (Go.Value.bool true) t74 k63) fun t75 =>
        PickQ first_5 t75 (Go.Value.bool false) fun t76 =>
        CondP t76 1 (fun (k64 : N1) =>
          k64 i_4 w14)
        (fun (k65 : N1) =>
          k65 at_3 w14)
        (fun (at_3 : Value) (w15 : World) => 
        k5 at_3 w15)))
      (fun (at_3 : Value) (w16 : World) => 
      Run Try.prog (binSem Go.BinOp.add 3 (Go.Operand.tmp 11) (Go.Operand.const (Go.Value.int Go.IntKind.i64 1)) i_4 (Go.Value.int Go.IntKind.i64 1)) w16 fun t12 w17 =>
      k2 at_3 t12 w17))))
    [(Go.Value.int Go.IntKind.i64 (-1)), (Go.Value.int Go.IntKind.i64 0)] w)
  (fun (at_3 : Value) (i_4 : Value) (w18 : World) => 
  R at_3 w18)
theorem S18_eq (l_0 : Value) (w : World) (R : Value → World → Prop) : vcFn Try.prog [] Try.f18 [l_0] w R = S18 l_0 w R := by kernel_rfl
theorem D18 {l_0 : Value} {w : World} {R : Value → World → Prop} (h : S18 l_0 w R) : Does Try.prog 18 [l_0] w R :=
  does_of_vc [] mixed Try.func18 (by kernel_rfl) (by kernel_rfl) ((S18_eq l_0 w R).mpr h)

/-- busbar/filter.Takes -/
def S19 (l_0 f_1 : Value) (w : World) (R : Value → World → Prop) : Prop :=
  Run Try.prog (Instr.box 35 f_1) w fun f_3 w1 =>
  Run Try.prog (Builtin.len_ #[57] 3 #[l_0]) w1 fun t8 w2 =>
  JoinP 2 (fun (k1 : N2) =>
    LoopP 2 (fun (k2 : N2) => (fun (t4 : Value) (t9 : Value) (w3 : World) => 
      Run Try.prog (binSem Go.BinOp.lss 3 (Go.Operand.tmp 9) (Go.Operand.tmp 8) t9 t8) w3 fun t10 w4 =>
      CondP t10 0 (fun (k3 : N0) =>
        k3 w4)
      (fun (k4 : N0) =>
        k1 t4 t9 w4)
      (fun (w5 : World) => 
      JoinP 1 (fun (k5 : N1) =>
        Run Try.prog (Instr.indexAt 57 l_0 t9) w5 fun t11 w6 =>
        Run Try.prog (Instr.loadAt 69 t11) w6 fun t12 w7 =>
        Run Try.prog (Instr.alloc 69 true (.tuple #[])) w7 fun r_6 w8 =>
        RunU Try.prog (Instr.storeAt 69 r_6 t12) w8 fun w9 =>
        Run Try.prog (Instr.fieldAt 69 r_6 0) w9 fun t13 w10 =>
        Run Try.prog (Instr.loadAt 4 t13) w10 fun t14 w11 =>
        Run Try.prog (Instr.fieldAt 35 f_3 1) w11 fun t15 w12 =>
        Run Try.prog (Instr.loadAt 4 t15) w12 fun t16 w13 =>
        Run Try.prog (binSem Go.BinOp.eql 4 (Go.Operand.tmp 14) (Go.Operand.tmp 16) t14 t16) w13 fun t17 w14 =>
        GuardP t17 true (fun (k6 : N1) => Run Try.prog (Instr.fieldAt 35 f_3 0) w14 k6) w14 fun t19 w15 =>
        GuardP t17 true (fun (k7 : N1) => Run Try.prog (Instr.loadAt 32 t19) w15 k7) w15 fun t20 w16 =>
        GuardP t17 true (fun (k8 : N1) => Run Try.prog (Instr.fieldAt 69 r_6 1) w16 k8) w16 fun t21 w17 =>
        GuardP t17 true (fun (k9 : N1) => Run Try.prog (Instr.loadAt 32 t21) w17 k9) w17 fun t22 w18 =>
        GuardP t17 true (fun (k10 : N1) => Run Try.prog (binSem Go.BinOp.xor 32 (Go.Operand.tmp 20) (Go.Operand.tmp 22) t20 t22) w18 k10) w18 fun t23 w19 =>
        GuardP t17 true (fun (k11 : N1) => Run Try.prog (Instr.fieldAt 69 r_6 2) w19 k11) w19 fun t24 w20 =>
        GuardP t17 true (fun (k12 : N1) => Run Try.prog (Instr.loadAt 32 t24) w20 k12) w20 fun t25 w21 =>
        GuardP t17 true (fun (k13 : N1) => Run Try.prog (binSem Go.BinOp.and 32 (Go.Operand.tmp 23) (Go.Operand.tmp 25) t23 t25) w21 k13) w21 fun t26 w22 =>
        GuardP t17 true (fun (k14 : N1) => Run Try.prog (binSem Go.BinOp.eql 32 (Go.Operand.tmp 26) (Go.Operand.const (Go.Value.int Go.IntKind.u32 0)) t26 (Go.Value.int Go.IntKind.u32 0)) w22 k14) w22 fun t27 w23 =>
        PickP t17 t27 (Go.Value.bool false) w23 fun t28 w24 =>
        CondP t28 1 (fun (k15 : N1) =>
          R (Go.Value.bool true) w24)
        (fun (k16 : N1) =>
          k16 t4 w24)
        (fun (t4 : Value) (w25 : World) => 
        k5 t4 w25))
      (fun (t4 : Value) (w26 : World) => 
      Run Try.prog (binSem Go.BinOp.add 3 (Go.Operand.tmp 9) (Go.Operand.const (Go.Value.int Go.IntKind.i64 1)) t9 (Go.Value.int Go.IntKind.i64 1)) w26 fun t29 w27 =>
      k2 t4 t29 w27))))
    [(Go.Value.bool false), (Go.Value.int Go.IntKind.i64 0)] w2)
  (fun (t4 : Value) (t9 : Value) (w28 : World) => 
  Run Try.prog (Builtin.len_ #[57] 3 #[l_0]) w28 fun t31 w29 =>
  Run Try.prog (binSem Go.BinOp.eql 3 (Go.Operand.tmp 31) (Go.Operand.const (Go.Value.int Go.IntKind.i64 0)) t31 (Go.Value.int Go.IntKind.i64 0)) w29 fun t32 w30 =>
  R t32 w30)
theorem S19_eq (l_0 f_1 : Value) (w : World) (R : Value → World → Prop) : vcFn Try.prog [] Try.f19 [l_0, f_1] w R = S19 l_0 f_1 w R := by kernel_rfl
theorem D19 {l_0 f_1 : Value} {w : World} {R : Value → World → Prop} (h : S19 l_0 f_1 w R) : Does Try.prog 19 [l_0, f_1] w R :=
  does_of_vc [] mixed Try.func19 (by kernel_rfl) (by kernel_rfl) ((S19_eq l_0 f_1 w R).mpr h)

/-- busbar/busbarref0.SameFrame -/
def S20 (a_0 b_1 : Value) (w : World) (R : Value → World → Prop) : Prop :=
  Run Try.prog (Instr.box 35 a_0) w fun a_2 w1 =>
  Run Try.prog (Instr.box 35 b_1) w1 fun b_3 w2 =>
  Run Try.prog (Instr.fieldAt 35 a_2 0) w2 fun t5 w3 =>
  Run Try.prog (Instr.loadAt 32 t5) w3 fun t6 w4 =>
  Run Try.prog (Instr.fieldAt 35 b_3 0) w4 fun t7 w5 =>
  Run Try.prog (Instr.loadAt 32 t7) w5 fun t8 w6 =>
  Run Try.prog (binSem Go.BinOp.eql 32 (Go.Operand.tmp 6) (Go.Operand.tmp 8) t6 t8) w6 fun t9 w7 =>
  GuardP t9 true (fun (k1 : N1) => Run Try.prog (Instr.fieldAt 35 a_2 1) w7 k1) w7 fun t11 w8 =>
  GuardP t9 true (fun (k2 : N1) => Run Try.prog (Instr.loadAt 4 t11) w8 k2) w8 fun t12 w9 =>
  GuardP t9 true (fun (k3 : N1) => Run Try.prog (Instr.fieldAt 35 b_3 1) w9 k3) w9 fun t13 w10 =>
  GuardP t9 true (fun (k4 : N1) => Run Try.prog (Instr.loadAt 4 t13) w10 k4) w10 fun t14 w11 =>
  GuardP t9 true (fun (k5 : N1) => Run Try.prog (binSem Go.BinOp.eql 4 (Go.Operand.tmp 12) (Go.Operand.tmp 14) t12 t14) w11 k5) w11 fun t15 w12 =>
  PickP t9 t15 (Go.Value.bool false) w12 fun t16 w13 =>
  GuardP t16 true (fun (k6 : N1) => Run Try.prog (Instr.fieldAt 35 a_2 2) w13 k6) w13 fun t18 w14 =>
  GuardP t16 true (fun (k7 : N1) => Run Try.prog (Instr.loadAt 33 t18) w14 k7) w14 fun t19 w15 =>
  GuardP t16 true (fun (k8 : N1) => Run Try.prog (Instr.fieldAt 35 b_3 2) w15 k8) w15 fun t20 w16 =>
  GuardP t16 true (fun (k9 : N1) => Run Try.prog (Instr.loadAt 33 t20) w16 k9) w16 fun t21 w17 =>
  GuardP t16 true (fun (k10 : N1) => GoN Try.prog (callFunc 38 #[t19, t21]) w17 k10) w17 fun t22 w18 =>
  PickP t16 t22 (Go.Value.bool false) w18 fun t23 w19 =>
  R t23 w19
theorem S20_eq (a_0 b_1 : Value) (w : World) (R : Value → World → Prop) : vcFn Try.prog [] Try.f20 [a_0, b_1] w R = S20 a_0 b_1 w R := by kernel_rfl
theorem D20 {a_0 b_1 : Value} {w : World} {R : Value → World → Prop} (h : S20 a_0 b_1 w R) : Does Try.prog 20 [a_0, b_1] w R :=
  does_of_vc [] mixed Try.func20 (by kernel_rfl) (by kernel_rfl) ((S20_eq a_0 b_1 w R).mpr h)

/-- busbar/busbarlaw25.all -/
def S21 (n_0 : Value) (w : World) (R : Value → World → Prop) : Prop :=
  JoinP 2 (fun (k1 : N2) =>
    LoopP 2 (fun (k2 : N2) => (fun (l_3 : Value) (i_4 : Value) (w1 : World) => 
      Run Try.prog (binSem Go.BinOp.lss 3 (Go.Operand.tmp 5) (Go.Operand.tmp 6) i_4 n_0) w1 fun t7 w2 =>
      CondP t7 0 (fun (k3 : N0) =>
        k3 w2)
      (fun (k4 : N0) =>
        k1 l_3 i_4 w2)
      (fun (w3 : World) => 
      JoinP 1 (fun (k5 : N1) =>
        Run Try.prog (Instr.buildSlice 22 1 #[(0, (Go.Value.slice none 0 0))]) w3 fun t11 w4 =>
        Run Try.prog (Builtin.append_ #[22, 22] 22 #[l_3, t11]) w4 fun t12 w5 =>
        k5 t12 w5)
      (fun (l_3 : Value) (w6 : World) => 
      Run Try.prog (binSem Go.BinOp.add 3 (Go.Operand.tmp 8) (Go.Operand.const (Go.Value.int Go.IntKind.i64 1)) i_4 (Go.Value.int Go.IntKind.i64 1)) w6 fun t9 w7 =>
      k2 l_3 t9 w7))))
    [(Go.Value.slice none 0 0), (Go.Value.int Go.IntKind.i64 0)] w)
  (fun (l_3 : Value) (i_4 : Value) (w8 : World) => 
  R l_3 w8)
theorem S21_eq (n_0 : Value) (w : World) (R : Value → World → Prop) : vcFn Try.prog [] Try.f21 [n_0] w R = S21 n_0 w R := by kernel_rfl
theorem D21 {n_0 : Value} {w : World} {R : Value → World → Prop} (h : S21 n_0 w R) : Does Try.prog 21 [n_0] w R :=
  does_of_vc [] mixed Try.func21 (by kernel_rfl) (by kernel_rfl) ((S21_eq n_0 w R).mpr h)

/-- (*busbar/bus.Bus).Waiting -/
def S22 (b_0 : Value) (w : World) (R : Value → World → Prop) : Prop :=
  Run Try.prog (nilSem b_0) w fun t8 w1 =>
  Run Try.prog (Instr.fieldAt 74 t8 0) w1 fun t9 w2 =>
  Run Try.prog (Instr.loadAt 71 t9) w2 fun t10 w3 =>
  Run Try.prog (Builtin.len_ #[71] 3 #[t10]) w3 fun t11 w4 =>
  JoinP 2 (fun (k1 : N2) =>
    LoopP 2 (fun (k2 : N2) => (fun (n_4 : Value) (t12 : Value) (w5 : World) => 
      Run Try.prog (binSem Go.BinOp.lss 3 (Go.Operand.tmp 12) (Go.Operand.tmp 11) t12 t11) w5 fun t13 w6 =>
      CondP t13 0 (fun (k3 : N0) =>
        k3 w6)
      (fun (k4 : N0) =>
        k1 n_4 t12 w6)
      (fun (w7 : World) => 
      JoinP 1 (fun (k5 : N1) =>
        Run Try.prog (Instr.indexAt 71 t10 t12) w7 fun t14 w8 =>
        Run Try.prog (Instr.loadAt 78 t14) w8 fun t15 w9 =>
        Run Try.prog (nilSem t15) w9 fun t18 w10 =>
        Run Try.prog (Instr.fieldAt 81 t18 0) w10 fun t19 w11 =>
        Run Try.prog (Instr.loadAt 75 t19) w11 fun t20 w12 =>
        GoN Try.prog (callFunc 39 #[t20]) w12 fun t21 w13 =>
        Run Try.prog (binSem Go.BinOp.add 3 (Go.Operand.tmp 16) (Go.Operand.tmp 21) n_4 t21) w13 fun t22 w14 =>
        k5 t22 w14)
      (fun (n_4 : Value) (w15 : World) => 
      Run Try.prog (binSem Go.BinOp.add 3 (Go.Operand.tmp 12) (Go.Operand.const (Go.Value.int Go.IntKind.i64 1)) t12 (Go.Value.int Go.IntKind.i64 1)) w15 fun t23 w16 =>
      k2 n_4 t23 w16))))
    [(Go.Value.int Go.IntKind.i64 0), (Go.Value.int Go.IntKind.i64 0)] w4)
  (fun (n_4 : Value) (t12 : Value) (w17 : World) => 
  ∀ w18, Ext w17 w18 →
  RunQ Try.prog (nilSem b_0) w18 fun t26 =>
  RunQ Try.prog (Instr.fieldAt 74 t26 1) w18 fun t27 =>
  RunQ Try.prog (Instr.loadAt 72 t27) w18 fun t28 =>
  RunQ Try.prog (Builtin.len_ #[72] 3 #[t28]) w18 fun t29 =>
  R (.tuple #[n_4, t29]) w18)
theorem S22_eq (b_0 : Value) (w : World) (R : Value → World → Prop) : vcFn Try.prog [] Try.f22 [b_0] w R = S22 b_0 w R := by kernel_rfl
theorem D22 {b_0 : Value} {w : World} {R : Value → World → Prop} (h : S22 b_0 w R) : Does Try.prog 22 [b_0] w R :=
  does_of_vc [] mixed Try.func22 (by kernel_rfl) (by kernel_rfl) ((S22_eq b_0 w R).mpr h)

/-- (*busbar/bus.Bus).Counts -/
def S23 (b_0 n_1 : Value) (w : World) (R : Value → World → Prop) : Prop :=
  Run Try.prog (Instr.alloc 64 true (.tuple #[])) w fun t4 w1 =>
  GoN Try.prog (callFunc 27 #[b_0, n_1]) w1 fun t8 w2 =>
  Run Try.prog (Op.unary Go.UnOp.not t8) w2 fun t9 w3 =>
  CondP t9 1 (fun (k1 : N1) =>
    Run Try.prog (Instr.build 64 #[]) w3 fun t10 w4 =>
    Run Try.prog (Instr.makeInterface 70 (Go.Value.int Go.IntKind.i64 1)) w4 fun t11 w5 =>
    RunU Try.prog (Instr.storeAt 64 t4 t10) w5 fun w6 =>
    resK Try.prog t4 64 w6 fun r0 =>
    R (.tuple #[r0, t11]) w6)
  (fun (k2 : N1) =>
    k2 Go.Value.nilIface w3)
  (fun (t5 : Value) (w7 : World) => 
  Run Try.prog (nilSem b_0) w7 fun t13 w8 =>
  Run Try.prog (Instr.fieldAt 74 t13 0) w8 fun t14 w9 =>
  Run Try.prog (Instr.loadAt 71 t14) w9 fun t15 w10 =>
  Run Try.prog (Instr.indexAt 71 t15 n_1) w10 fun t17 w11 =>
  Run Try.prog (Instr.loadAt 78 t17) w11 fun t18 w12 =>
  Run Try.prog (nilSem t18) w12 fun t19 w13 =>
  Run Try.prog (Instr.fieldAt 81 t19 3) w13 fun t20 w14 =>
  Run Try.prog (Instr.loadAt 64 t20) w14 fun t21 w15 =>
  RunU Try.prog (Instr.storeAt 64 t4 t21) w15 fun w16 =>
  resK Try.prog t4 64 w16 fun r0 =>
  R (.tuple #[r0, Go.Value.nilIface]) w16)
theorem S23_eq (b_0 n_1 : Value) (w : World) (R : Value → World → Prop) : vcFn Try.prog [] Try.f23 [b_0, n_1] w R = S23 b_0 n_1 w R := by kernel_rfl
theorem D23 {b_0 n_1 : Value} {w : World} {R : Value → World → Prop} (h : S23 b_0 n_1 w R) : Does Try.prog 23 [b_0, n_1] w R :=
  does_of_vc [] mixed Try.func23 (by kernel_rfl) (by kernel_rfl) ((S23_eq b_0 n_1 w R).mpr h)

/-- busbar/queue.New[busbar/api.Frame] -/
def S24 (room_0 : Value) (w : World) (R : Value → World → Prop) : Prop :=
  Run Try.prog (binSem Go.BinOp.lss 3 (Go.Operand.tmp 4) (Go.Operand.const (Go.Value.int Go.IntKind.i64 1)) room_0 (Go.Value.int Go.IntKind.i64 1)) w fun t5 w1 =>
  GuardP t5 false (fun (k1 : N1) => k1 room_0 w1) w1 fun t7 w2 =>
  GuardP t5 false (fun (k2 : N1) => Run Try.prog (binSem Go.BinOp.gtr 3 (Go.Operand.tmp 7) (Go.Operand.const (Go.Value.int Go.IntKind.i64 64)) t7 (Go.Value.int Go.IntKind.i64 64)) w2 k2) w2 fun t8 w3 =>
  PickP t5 (Go.Value.bool true) t8 w3 fun t9 w4 =>
  CondP t9 2 (fun (k3 : N2) =>
    Run Try.prog (Instr.makeInterface 70 (Go.Value.int Go.IntKind.i64 1)) w4 fun t10 w5 =>
    R (.tuple #[(Go.Value.pointer none), t10]) w5)
  (fun (k4 : N2) =>
    k4 (Go.Value.pointer none) Go.Value.nilIface w4)
  (fun (t2 : Value) (t3 : Value) (w6 : World) => 
  Run Try.prog (Instr.makeSlice 97 room_0 room_0) w6 fun t12 w7 =>
  Run Try.prog (Instr.build 99 #[(0, t12)]) w7 fun t13 w8 =>
  Run Try.prog (Instr.box 99 t13) w8 fun t14 w9 =>
  R (.tuple #[t14, Go.Value.nilIface]) w9)
theorem S24_eq (room_0 : Value) (w : World) (R : Value → World → Prop) : vcFn Try.prog [] Try.f24 [room_0] w R = S24 room_0 w R := by kernel_rfl
theorem D24 {room_0 : Value} {w : World} {R : Value → World → Prop} (h : S24 room_0 w R) : Does Try.prog 24 [room_0] w R :=
  does_of_vc [] mixed Try.func24 (by kernel_rfl) (by kernel_rfl) ((S24_eq room_0 w R).mpr h)

/-- slices.Clone[[]busbar/api.Rule,busbar/api.Rule] -/
def S25 (s_0 : Value) (w : World) (R : Value → World → Prop) : Prop :=
  Run Try.prog (binSem Go.BinOp.eql 57 (Go.Operand.tmp 3) (Go.Operand.const (Go.Value.slice none 0 0)) s_0 (Go.Value.slice none 0 0)) w fun t4 w1 =>
  CondP t4 1 (fun (k1 : N1) =>
    R (Go.Value.slice none 0 0) w1)
  (fun (k2 : N1) =>
    k2 (Go.Value.slice none 0 0) w1)
  (fun (t2 : Value) (w2 : World) => 
  Run Try.prog (Instr.buildSlice 57 0 #[]) w2 fun t5 w3 =>
  Run Try.prog (Builtin.append_ #[57, 57] 57 #[t5, s_0]) w3 fun t7 w4 =>
  R t7 w4)
theorem S25_eq (s_0 : Value) (w : World) (R : Value → World → Prop) : vcFn Try.prog [] Try.f25 [s_0] w R = S25 s_0 w R := by kernel_rfl
theorem D25 {s_0 : Value} {w : World} {R : Value → World → Prop} (h : S25 s_0 w R) : Does Try.prog 25 [s_0] w R :=
  does_of_vc [] mixed Try.func25 (by kernel_rfl) (by kernel_rfl) ((S25_eq s_0 w R).mpr h)

/-- errors.Is -/
def S26 (err_0 target_1 : Value) (w : World) (R : Value → World → Prop) : Prop :=
  Run Try.prog (binSem Go.BinOp.eql 27 (Go.Operand.tmp 6) (Go.Operand.const Go.Value.nilIface) err_0 Go.Value.nilIface) w fun t7 w1 =>
  GuardP t7 false (fun (k1 : N1) => k1 target_1 w1) w1 fun t9 w2 =>
  GuardP t7 false (fun (k2 : N1) => Run Try.prog (binSem Go.BinOp.eql 27 (Go.Operand.tmp 9) (Go.Operand.const Go.Value.nilIface) t9 Go.Value.nilIface) w2 k2) w2 fun t10 w3 =>
  PickP t7 (Go.Value.bool true) t10 w3 fun t11 w4 =>
  CondP t11 1 (fun (k3 : N1) =>
    Run Try.prog (binSem Go.BinOp.eql 27 (Go.Operand.tmp 12) (Go.Operand.tmp 13) err_0 target_1) w4 fun t14 w5 =>
    R t14 w5)
  (fun (k4 : N1) =>
    k4 (Go.Value.bool false) w4)
  (fun (t4 : Value) (w6 : World) => 
  GoN Try.prog (callFunc 40 #[target_1]) w6 fun t16 w7 =>
  GoN Try.prog (callMethod t16 "Comparable" #[]) w7 fun t17 w8 =>
  GoN Try.prog (callFunc 41 #[err_0, target_1, t17]) w8 fun t21 w9 =>
  R t21 w9)
theorem S26_eq (err_0 target_1 : Value) (w : World) (R : Value → World → Prop) : vcFn Try.prog [] Try.f26 [err_0, target_1] w R = S26 err_0 target_1 w R := by kernel_rfl
theorem D26 {err_0 target_1 : Value} {w : World} {R : Value → World → Prop} (h : S26 err_0 target_1 w R) : Does Try.prog 26 [err_0, target_1] w R :=
  does_of_vc [] mixed Try.func26 (by kernel_rfl) (by kernel_rfl) ((S26_eq err_0 target_1 w R).mpr h)

/-- (*busbar/bus.Bus).there -/
def S27 (b_0 n_1 : Value) (w : World) (R : Value → World → Prop) : Prop :=
  Run Try.prog (binSem Go.BinOp.geq 3 (Go.Operand.tmp 5) (Go.Operand.const (Go.Value.int Go.IntKind.i64 0)) n_1 (Go.Value.int Go.IntKind.i64 0)) w fun t6 w1 =>
  GuardP t6 true (fun (k1 : N1) => k1 n_1 w1) w1 fun t8 w2 =>
  GuardP t6 true (fun (k2 : N1) => k2 b_0 w2) w2 fun t9 w3 =>
  GuardP t6 true (fun (k3 : N1) => Run Try.prog (nilSem t9) w3 k3) w3 fun t10 w4 =>
  GuardP t6 true (fun (k4 : N1) => Run Try.prog (Instr.fieldAt 74 t10 0) w4 k4) w4 fun t11 w5 =>
  GuardP t6 true (fun (k5 : N1) => Run Try.prog (Instr.loadAt 71 t11) w5 k5) w5 fun t12 w6 =>
  GuardP t6 true (fun (k6 : N1) => Run Try.prog (Builtin.len_ #[71] 3 #[t12]) w6 k6) w6 fun t13 w7 =>
  GuardP t6 true (fun (k7 : N1) => Run Try.prog (binSem Go.BinOp.lss 3 (Go.Operand.tmp 8) (Go.Operand.tmp 13) t8 t13) w7 k7) w7 fun t14 w8 =>
  PickP t6 t14 (Go.Value.bool false) w8 fun t15 w9 =>
  R t15 w9
theorem S27_eq (b_0 n_1 : Value) (w : World) (R : Value → World → Prop) : vcFn Try.prog [] Try.f27 [b_0, n_1] w R = S27 b_0 n_1 w R := by kernel_rfl
theorem D27 {b_0 n_1 : Value} {w : World} {R : Value → World → Prop} (h : S27 b_0 n_1 w R) : Does Try.prog 27 [b_0, n_1] w R :=
  does_of_vc [] mixed Try.func27 (by kernel_rfl) (by kernel_rfl) ((S27_eq b_0 n_1 w R).mpr h)

/-- (*busbar/queue.Queue[busbar/api.Frame]).Push -/
def S28 (q_0 v_1 : Value) (w : World) (R : Value → World → Prop) : Prop :=
  Run Try.prog (Instr.box 35 v_1) w fun v_3 w1 =>
  ∀ w2, Ext w1 w2 →
  RunQ Try.prog (nilSem q_0) w2 fun t6 =>
  RunQ Try.prog (Instr.fieldAt 99 t6 2) w2 fun t7 =>
  RunQ Try.prog (Instr.loadAt 3 t7) w2 fun t8 =>
  RunQ Try.prog (nilSem q_0) w2 fun t10 =>
  RunQ Try.prog (Instr.fieldAt 99 t10 0) w2 fun t11 =>
  RunQ Try.prog (Instr.loadAt 97 t11) w2 fun t12 =>
  RunQ Try.prog (Builtin.len_ #[97] 3 #[t12]) w2 fun t13 =>
  RunQ Try.prog (binSem Go.BinOp.eql 3 (Go.Operand.tmp 8) (Go.Operand.tmp 13) t8 t13) w2 fun t14 =>
  CondP t14 1 (fun (k1 : N1) =>
    Run Try.prog (Instr.makeInterface 70 (Go.Value.int Go.IntKind.i64 24)) w2 fun t15 w3 =>
    R t15 w3)
  (fun (k2 : N1) =>
    k2 Go.Value.nilIface w2)
  (fun (t4 : Value) (w4 : World) => 
  ∀ w5, Ext w4 w5 →
  RunQ Try.prog (nilSem q_0) w5 fun t17 =>
  RunQ Try.prog (Instr.fieldAt 99 t17 0) w5 fun t18 =>
  RunQ Try.prog (Instr.loadAt 97 t18) w5 fun t19 =>
  RunQ Try.prog (nilSem q_0) w5 fun t22 =>
  RunQ Try.prog (Instr.fieldAt 99 t22 2) w5 fun t23 =>
  RunQ Try.prog (Instr.loadAt 3 t23) w5 fun t24 =>
  GoN Try.prog (callFunc 42 #[q_0, t24]) w5 fun t25 w6 => Ext w5 w6 ∧
  RunQ Try.prog (Instr.loadAt 35 v_3) w5 fun t26 =>
  RunQ Try.prog (Instr.indexAt 97 t19 t25) w5 fun t27 =>
  RunU Try.prog (Instr.storeAt 35 t27 t26) w6 fun w7 =>
  Run Try.prog (nilSem q_0) w7 fun t29 w8 =>
  Run Try.prog (Instr.fieldAt 99 t29 2) w8 fun t30 w9 =>
  Run Try.prog (Instr.loadAt 3 t30) w9 fun t31 w10 =>
  Run Try.prog (binSem Go.BinOp.add 3 (Go.Operand.tmp 31) (Go.Operand.const (Go.Value.int Go.IntKind.i64 1)) t31 (Go.Value.int Go.IntKind.i64 1)) w10 fun t32 w11 =>
  Run Try.prog (nilSem q_0) w11 fun t33 w12 =>
  Run Try.prog (Instr.fieldAt 99 t33 2) w12 fun t34 w13 =>
  RunU Try.prog (Instr.storeAt 3 t34 t32) w13 fun w14 =>
  R Go.Value.nilIface w14)
theorem S28_eq (q_0 v_1 : Value) (w : World) (R : Value → World → Prop) : vcFn Try.prog [] Try.f28 [q_0, v_1] w R = S28 q_0 v_1 w R := by kernel_rfl
theorem D28 {q_0 v_1 : Value} {w : World} {R : Value → World → Prop} (h : S28 q_0 v_1 w R) : Does Try.prog 28 [q_0, v_1] w R :=
  does_of_vc [] mixed Try.func28 (by kernel_rfl) (by kernel_rfl) ((S28_eq q_0 v_1 w R).mpr h)

/-- busbar/bus.own -/
def S29 (f_0 : Value) (w : World) (R : Value → World → Prop) : Prop :=
  Run Try.prog (Instr.box 35 f_0) w fun f_1 w1 =>
  Run Try.prog (Instr.alloc 35 true (.tuple #[])) w1 fun t2 w2 =>
  Run Try.prog (Instr.fieldAt 35 f_1 2) w2 fun t3 w3 =>
  Run Try.prog (Instr.loadAt 33 t3) w3 fun t4 w4 =>
  GoN Try.prog (callFunc 43 #[t4]) w4 fun t5 w5 =>
  Run Try.prog (Instr.fieldAt 35 f_1 2) w5 fun t6 w6 =>
  RunU Try.prog (Instr.storeAt 33 t6 t5) w6 fun w7 =>
  Run Try.prog (Instr.loadAt 35 f_1) w7 fun t7 w8 =>
  RunU Try.prog (Instr.storeAt 35 t2 t7) w8 fun w9 =>
  resK Try.prog t2 35 w9 fun r0 =>
  R r0 w9
theorem S29_eq (f_0 : Value) (w : World) (R : Value → World → Prop) : vcFn Try.prog [] Try.f29 [f_0] w R = S29 f_0 w R := by kernel_rfl
theorem D29 {f_0 : Value} {w : World} {R : Value → World → Prop} (h : S29 f_0 w R) : Does Try.prog 29 [f_0] w R :=
  does_of_vc [] mixed Try.func29 (by kernel_rfl) (by kernel_rfl) ((S29_eq f_0 w R).mpr h)

/-- busbar/busbarref0.CopyBytes -/
def S30 (l_0 : Value) (w : World) (R : Value → World → Prop) : Prop :=
  JoinP 2 (fun (k1 : N2) =>
    LoopP 2 (fun (k2 : N2) => (fun (out_3 : Value) (i_4 : Value) (w1 : World) => 
      Run Try.prog (Builtin.len_ #[33] 3 #[l_0]) w1 fun t7 w2 =>
      Run Try.prog (binSem Go.BinOp.lss 3 (Go.Operand.tmp 5) (Go.Operand.tmp 7) i_4 t7) w2 fun t8 w3 =>
      CondP t8 0 (fun (k3 : N0) =>
        k3 w3)
      (fun (k4 : N0) =>
        k1 out_3 i_4 w3)
      (fun (w4 : World) => 
      JoinP 1 (fun (k5 : N1) =>
        Run Try.prog (Instr.indexAt 33 l_0 i_4) w4 fun t14 w5 =>
        Run Try.prog (Instr.loadAt 5 t14) w5 fun t15 w6 =>
        Run Try.prog (Instr.buildSlice 33 1 #[(0, t15)]) w6 fun t16 w7 =>
        Run Try.prog (Builtin.append_ #[33, 33] 33 #[out_3, t16]) w7 fun t17 w8 =>
        k5 t17 w8)
      (fun (out_3 : Value) (w9 : World) => 
      Run Try.prog (binSem Go.BinOp.add 3 (Go.Operand.tmp 9) (Go.Operand.const (Go.Value.int Go.IntKind.i64 1)) i_4 (Go.Value.int Go.IntKind.i64 1)) w9 fun t10 w10 =>
      k2 out_3 t10 w10))))
    [(Go.Value.slice none 0 0), (Go.Value.int Go.IntKind.i64 0)] w)
  (fun (out_3 : Value) (i_4 : Value) (w11 : World) => 
  R out_3 w11)
theorem S30_eq (l_0 : Value) (w : World) (R : Value → World → Prop) : vcFn Try.prog [] Try.f30 [l_0] w R = S30 l_0 w R := by kernel_rfl
theorem D30 {l_0 : Value} {w : World} {R : Value → World → Prop} (h : S30 l_0 w R) : Does Try.prog 30 [l_0] w R :=
  does_of_vc [] mixed Try.func30 (by kernel_rfl) (by kernel_rfl) ((S30_eq l_0 w R).mpr h)

/-- (*busbar/bus.Bus).first -/
def S31 (b_0 : Value) (w : World) (R : Value → World → Prop) : Prop :=
  Run Try.prog (Instr.alloc 35 true (.tuple #[])) w fun t3 w1 =>
  Run Try.prog (Instr.build 35 #[]) w1 fun t10 w2 =>
  Run Try.prog (Instr.alloc 35 true (.tuple #[])) w2 fun best_5 w3 =>
  RunU Try.prog (Instr.storeAt 35 best_5 t10) w3 fun w4 =>
  Run Try.prog (nilSem b_0) w4 fun t12 w5 =>
  Run Try.prog (Instr.fieldAt 74 t12 0) w5 fun t13 w6 =>
  Run Try.prog (Instr.loadAt 71 t13) w6 fun t14 w7 =>
  Run Try.prog (Builtin.len_ #[71] 3 #[t14]) w7 fun t15 w8 =>
  JoinP 2 (fun (k1 : N2) =>
    LoopP 2 (fun (k2 : N2) => (fun (at_4 : Value) (t16 : Value) (w9 : World) => 
      Run Try.prog (binSem Go.BinOp.lss 3 (Go.Operand.tmp 16) (Go.Operand.tmp 15) t16 t15) w9 fun t17 w10 =>
      CondP t17 0 (fun (k3 : N0) =>
        k3 w10)
      (fun (k4 : N0) =>
        k1 at_4 t16 w10)
      (fun (w11 : World) => 
      JoinP 1 (fun (k5 : N1) =>
        Run Try.prog (Instr.indexAt 71 t14 t16) w11 fun t19 w12 =>
        Run Try.prog (Instr.loadAt 78 t19) w12 fun t20 w13 =>
        Run Try.prog (nilSem t20) w13 fun t23 w14 =>
        Run Try.prog (Instr.fieldAt 81 t23 0) w14 fun t24 w15 =>
        Run Try.prog (Instr.loadAt 75 t24) w15 fun t25 w16 =>
        GoN Try.prog (callFunc 44 #[t25]) w16 fun t26 w17 =>
        Run Try.prog (Instr.extract t26 0) w17 fun t27 w18 =>
        Run Try.prog (Instr.extract t26 1) w18 fun t28 w19 =>
        Run Try.prog (Instr.alloc 35 true (.tuple #[])) w19 fun f_8 w20 =>
        RunU Try.prog (Instr.storeAt 35 f_8 t27) w20 fun w21 =>
        GuardP t28 true (fun (k6 : N1) => k6 at_4 w21) w21 fun t31 w22 =>
        GuardP t28 true (fun (k7 : N1) => Run Try.prog (binSem Go.BinOp.lss 3 (Go.Operand.tmp 31) (Go.Operand.const (Go.Value.int Go.IntKind.i64 0)) t31 (Go.Value.int Go.IntKind.i64 0)) w22 k7) w22 fun t32 w23 =>
        GuardP t28 true (fun (k8 : N1) => k8 t32 w23) w23 fun t33 w24 =>
        GuardP t33 false (fun (k9 : N1) => Run Try.prog (Instr.loadAt 35 f_8) w24 k9) w24 fun t34 w25 =>
        GuardP t33 false (fun (k10 : N1) => Run Try.prog (Instr.loadAt 35 best_5) w25 k10) w25 fun t35 w26 =>
        GuardP t33 false (fun (k11 : N1) => GoN Try.prog (callFunc 37 #[t34, t35]) w26 k11) w26 fun t36 w27 =>
        GuardP t28 true (fun (k12 : N1) => PickP t33 (Go.Value.bool true) t36 w27 k12) w27 fun t37 w28 =>
        PickP t28 t37 (Go.Value.bool false) w28 fun t38 w29 =>
        CondP t38 1 (fun (k13 : N1) =>
          ∀ w30, Ext w29 w30 →
          RunQ Try.prog (Instr.loadAt 35 f_8) w30 fun t40 =>
          RunU Try.prog (Instr.storeAt 35 best_5 t40) w30 fun w31 =>
          k13 t16 w31)
        (fun (k14 : N1) =>
          k14 at_4 w29)
        (fun (at_4 : Value) (w32 : World) => 
        k5 at_4 w32))
      (fun (at_4 : Value) (w33 : World) => 
      Run Try.prog (binSem Go.BinOp.add 3 (Go.Operand.tmp 16) (Go.Operand.const (Go.Value.int Go.IntKind.i64 1)) t16 (Go.Value.int Go.IntKind.i64 1)) w33 fun t41 w34 =>
      k2 at_4 t41 w34))))
    [(Go.Value.int Go.IntKind.i64 (-1)), (Go.Value.int Go.IntKind.i64 0)] w8)
  (fun (at_4 : Value) (t16 : Value) (w35 : World) => 
  ∀ w36, Ext w35 w36 →
  RunQ Try.prog (Instr.loadAt 35 best_5) w36 fun t43 =>
  RunU Try.prog (Instr.storeAt 35 t3 t43) w36 fun w37 =>
  resK Try.prog t3 35 w37 fun r1 =>
  R (.tuple #[at_4, r1]) w37)
theorem S31_eq (b_0 : Value) (w : World) (R : Value → World → Prop) : vcFn Try.prog [] Try.f31 [b_0] w R = S31 b_0 w R := by kernel_rfl
theorem D31 {b_0 : Value} {w : World} {R : Value → World → Prop} (h : S31 b_0 w R) : Does Try.prog 31 [b_0] w R :=
  does_of_vc [] mixed Try.func31 (by kernel_rfl) (by kernel_rfl) ((S31_eq b_0 w R).mpr h)

/-- (*busbar/bus.Bus).goes -/
def S32 (b_0 at_1 f_2 w_3 : Value) (w : World) (R : Value → World → Prop) : Prop :=
  Run Try.prog (Instr.box 35 f_2) w fun f_6 w1 =>
  Run Try.prog (Instr.box 38 w_3) w1 fun w_7 w2 =>
  Run Try.prog (Instr.loadAt 35 f_6) w2 fun t18 w3 =>
  GoN Try.prog (callFunc 35 #[t18]) w3 fun t19 w4 =>
  Run Try.prog (Instr.extract t19 0) w4 fun t20 w5 =>
  Run Try.prog (Instr.extract t19 1) w5 fun t21 w6 =>
  Run Try.prog (binSem Go.BinOp.neq 27 (Go.Operand.tmp 22) (Go.Operand.const Go.Value.nilIface) t21 Go.Value.nilIface) w6 fun t23 w7 =>
  CondP t23 2 (fun (k1 : N2) =>
    R (.tuple #[(Go.Value.slice none 0 0), t21]) w7)
  (fun (k2 : N2) =>
    k2 (Go.Value.slice none 0 0) Go.Value.nilIface w7)
  (fun (t8 : Value) (t9 : Value) (w8 : World) => 
  Run Try.prog (nilSem b_0) w8 fun t27 w9 =>
  Run Try.prog (Instr.fieldAt 74 t27 0) w9 fun t28 w10 =>
  Run Try.prog (Instr.loadAt 71 t28) w10 fun t29 w11 =>
  Run Try.prog (Instr.indexAt 71 t29 at_1) w11 fun t31 w12 =>
  Run Try.prog (Instr.loadAt 78 t31) w12 fun t32 w13 =>
  Run Try.prog (nilSem t32) w13 fun t33 w14 =>
  Run Try.prog (Instr.fieldAt 81 t33 0) w14 fun t34 w15 =>
  Run Try.prog (Instr.loadAt 75 t34) w15 fun t35 w16 =>
  GoN Try.prog (callFunc 34 #[t35]) w16 fun t36 w17 =>
  Run Try.prog (Instr.extract t36 0) w17 fun t37 w18 =>
  Run Try.prog (Instr.extract t36 1) w18 fun t38 w19 =>
  Run Try.prog (Instr.alloc 35 true (.tuple #[])) w19 fun t12 w20 =>
  RunU Try.prog (Instr.storeAt 35 t12 t37) w20 fun w21 =>
  Run Try.prog (binSem Go.BinOp.neq 27 (Go.Operand.tmp 39) (Go.Operand.const Go.Value.nilIface) t38 Go.Value.nilIface) w21 fun t40 w22 =>
  CondP t40 2 (fun (k3 : N2) =>
    R (.tuple #[(Go.Value.slice none 0 0), t38]) w22)
  (fun (k4 : N2) =>
    k4 t8 t9 w22)
  (fun (t8 : Value) (t9 : Value) (w23 : World) => 
  Run Try.prog (nilSem b_0) w23 fun t43 w24 =>
  Run Try.prog (Instr.fieldAt 74 t43 0) w24 fun t44 w25 =>
  Run Try.prog (Instr.loadAt 71 t44) w25 fun t45 w26 =>
  Run Try.prog (Instr.indexAt 71 t45 at_1) w26 fun t47 w27 =>
  Run Try.prog (Instr.loadAt 78 t47) w27 fun t48 w28 =>
  Run Try.prog (nilSem t48) w28 fun t49 w29 =>
  Run Try.prog (Instr.fieldAt 81 t49 3) w29 fun t50 w30 =>
  Run Try.prog (Instr.fieldAt 64 t50 0) w30 fun t51 w31 =>
  Run Try.prog (Instr.loadAt 3 t51) w31 fun t52 w32 =>
  Run Try.prog (binSem Go.BinOp.add 3 (Go.Operand.tmp 52) (Go.Operand.const (Go.Value.int Go.IntKind.i64 1)) t52 (Go.Value.int Go.IntKind.i64 1)) w32 fun t53 w33 =>
  Run Try.prog (nilSem t48) w33 fun t54 w34 =>
  Run Try.prog (Instr.fieldAt 81 t54 3) w34 fun t55 w35 =>
  Run Try.prog (Instr.fieldAt 64 t55 0) w35 fun t56 w36 =>
  RunU Try.prog (Instr.storeAt 3 t56 t53) w36 fun w37 =>
  Run Try.prog (Instr.fieldAt 38 w_7 3) w37 fun t57 w38 =>
  Run Try.prog (Instr.loadAt 36 t57) w38 fun t58 w39 =>
  Run Try.prog (Builtin.len_ #[36] 3 #[t58]) w39 fun t59 w40 =>
  JoinP 1 (fun (k5 : N1) =>
    LoopP 1 (fun (k6 : N1) => (fun (t60 : Value) (w41 : World) => 
      Run Try.prog (binSem Go.BinOp.lss 3 (Go.Operand.tmp 60) (Go.Operand.tmp 59) t60 t59) w41 fun t61 w42 =>
      CondP t61 0 (fun (k7 : N0) =>
        k7 w42)
      (fun (k8 : N0) =>
        k5 t60 w42)
      (fun (w43 : World) => 
      JoinP 0 (fun (k9 : N0) =>
        Run Try.prog (Instr.indexAt 36 t58 t60) w43 fun t62 w44 =>
        Run Try.prog (Instr.loadAt 3 t62) w44 fun t63 w45 =>
        Run Try.prog (binSem Go.BinOp.geq 3 (Go.Operand.tmp 64) (Go.Operand.const (Go.Value.int Go.IntKind.i64 0)) t63 (Go.Value.int Go.IntKind.i64 0)) w45 fun t65 w46 =>
        GuardP t65 true (fun (k10 : N1) => k10 t63 w46) w46 fun t67 w47 =>
        GuardP t65 true (fun (k11 : N1) => k11 t20 w47) w47 fun t68 w48 =>
        GuardP t65 true (fun (k12 : N1) => Run Try.prog (Builtin.len_ #[52] 3 #[t68]) w48 k12) w48 fun t69 w49 =>
        GuardP t65 true (fun (k13 : N1) => Run Try.prog (binSem Go.BinOp.lss 3 (Go.Operand.tmp 67) (Go.Operand.tmp 69) t67 t69) w49 k13) w49 fun t70 w50 =>
        PickP t65 t70 (Go.Value.bool false) w50 fun t71 w51 =>
        CondP t71 0 (fun (k14 : N0) =>
          Run Try.prog (Instr.indexAt 52 t20 t63) w51 fun t76 w52 =>
          Run Try.prog (Instr.loadAt 4 t76) w52 fun t77 w53 =>
          Run Try.prog (Op.unary Go.UnOp.not t77) w53 fun t78 w54 =>
          Run Try.prog (Instr.indexAt 52 t20 t63) w54 fun t79 w55 =>
          RunU Try.prog (Instr.storeAt 4 t79 t78) w55 fun w56 =>
          k14 w56)
        (fun (k15 : N0) =>
          k15 w51)
        (fun (w57 : World) => 
        k9 w57))
      (fun (w58 : World) => 
      Run Try.prog (binSem Go.BinOp.add 3 (Go.Operand.tmp 60) (Go.Operand.const (Go.Value.int Go.IntKind.i64 1)) t60 (Go.Value.int Go.IntKind.i64 1)) w58 fun t80 w59 =>
      k6 t80 w59))))
    [(Go.Value.int Go.IntKind.i64 0)] w40)
  (fun (t60 : Value) (w60 : World) => 
  Run Try.prog (Instr.fieldAt 38 w_7 1) w60 fun t83 w61 =>
  Run Try.prog (Instr.loadAt 4 t83) w61 fun t84 w62 =>
  Run Try.prog (Instr.fieldAt 38 w_7 2) w62 fun t85 w63 =>
  Run Try.prog (Instr.loadAt 3 t85) w63 fun t86 w64 =>
  Run Try.prog (Instr.build 91 #[(0, at_1), (1, t20), (2, t84), (3, t86)]) w64 fun t87 w65 =>
  Run Try.prog (Instr.alloc 91 true (.tuple #[])) w65 fun x_16 w66 =>
  RunU Try.prog (Instr.storeAt 91 x_16 t87) w66 fun w67 =>
  JoinP 2 (fun (k16 : N2) =>
    Run Try.prog (Instr.fieldAt 38 w_7 0) w67 fun t92 w68 =>
    Run Try.prog (Instr.loadAt 4 t92) w68 fun t93 w69 =>
    CondP t93 2 (fun (k17 : N2) =>
      k17 t8 t9 w69)
    (fun (k18 : N2) =>
      Run Try.prog (Instr.fieldAt 38 w_7 2) w69 fun t95 w70 =>
      Run Try.prog (Instr.loadAt 3 t95) w70 fun t96 w71 =>
      Run Try.prog (binSem Go.BinOp.gtr 3 (Go.Operand.tmp 96) (Go.Operand.const (Go.Value.int Go.IntKind.i64 0)) t96 (Go.Value.int Go.IntKind.i64 0)) w71 fun t97 w72 =>
      CondP t97 2 (fun (k19 : N2) =>
        Run Try.prog (Instr.loadAt 91 x_16) w72 fun t98 w73 =>
        Run Try.prog (Instr.buildSlice 72 1 #[(0, t98)]) w73 fun t99 w74 =>
        R (.tuple #[t99, Go.Value.nilIface]) w74)
      (fun (k20 : N2) =>
        Run Try.prog (Instr.loadAt 91 x_16) w72 fun t89 w75 =>
        GoN Try.prog (callFunc 33 #[b_0, t89]) w75 fun t90 w76 =>
        k20 t8 t9 w76)
      (fun (t8 : Value) (t9 : Value) (w77 : World) => 
      k18 t8 t9 w77))
    (fun (t8 : Value) (t9 : Value) (w78 : World) => 
    k16 t8 t9 w78))
  (fun (t8 : Value) (t9 : Value) (w79 : World) => 
  R (.tuple #[(Go.Value.slice none 0 0), Go.Value.nilIface]) w79))))
theorem S32_eq (b_0 at_1 f_2 w_3 : Value) (w : World) (R : Value → World → Prop) : vcFn Try.prog [] Try.f32 [b_0, at_1, f_2, w_3] w R = S32 b_0 at_1 f_2 w_3 w R := by kernel_rfl
theorem D32 {b_0 at_1 f_2 w_3 : Value} {w : World} {R : Value → World → Prop} (h : S32 b_0 at_1 f_2 w_3 w R) : Does Try.prog 32 [b_0, at_1, f_2, w_3] w R :=
  does_of_vc [] mixed Try.func32 (by kernel_rfl) (by kernel_rfl) ((S32_eq b_0 at_1 f_2 w_3 w R).mpr h)

/-- (*busbar/bus.Bus).comes -/
def S33 (b_0 x_1 : Value) (w : World) (R : Value → World → Prop) : Prop :=
  Run Try.prog (Instr.box 91 x_1) w fun x_3 w1 =>
  Run Try.prog (Instr.fieldAt 91 x_3 1) w1 fun t7 w2 =>
  Run Try.prog (Instr.loadAt 52 t7) w2 fun t8 w3 =>
  GoN Try.prog (callFunc 36 #[t8]) w3 fun t9 w4 =>
  GoN Try.prog (callFunc 45 #[t9]) w4 fun t10 w5 =>
  Run Try.prog (Instr.extract t10 0) w5 fun t11 w6 =>
  Run Try.prog (Instr.extract t10 1) w6 fun t12 w7 =>
  Run Try.prog (Instr.alloc 35 true (.tuple #[])) w7 fun f_4 w8 =>
  RunU Try.prog (Instr.storeAt 35 f_4 t11) w8 fun w9 =>
  Run Try.prog (Instr.fieldAt 91 x_3 0) w9 fun t14 w10 =>
  Run Try.prog (Instr.loadAt 3 t14) w10 fun t15 w11 =>
  Run Try.prog (Instr.loadAt 35 f_4) w11 fun t16 w12 =>
  GoN Try.prog (callFunc 46 #[b_0, t15, t16, t12]) w12 fun t18 w13 =>
  Run Try.prog (Instr.fieldAt 91 x_3 2) w13 fun t19 w14 =>
  Run Try.prog (Instr.loadAt 4 t19) w14 fun t20 w15 =>
  CondP t20 0 (fun (k1 : N0) =>
    Run Try.prog (Instr.fieldAt 91 x_3 0) w15 fun t22 w16 =>
    Run Try.prog (Instr.loadAt 3 t22) w16 fun t23 w17 =>
    Run Try.prog (Instr.loadAt 35 f_4) w17 fun t24 w18 =>
    GoN Try.prog (callFunc 46 #[b_0, t23, t24, t12]) w18 fun t26 w19 =>
    k1 w19)
  (fun (k2 : N0) =>
    k2 w15)
  (fun (w20 : World) => 
  R (.tuple #[]) w20)
theorem S33_eq (b_0 x_1 : Value) (w : World) (R : Value → World → Prop) : vcFn Try.prog [] Try.f33 [b_0, x_1] w R = S33 b_0 x_1 w R := by kernel_rfl
theorem D33 {b_0 x_1 : Value} {w : World} {R : Value → World → Prop} (h : S33 b_0 x_1 w R) : Does Try.prog 33 [b_0, x_1] w R :=
  does_of_vc [] mixed Try.func33 (by kernel_rfl) (by kernel_rfl) ((S33_eq b_0 x_1 w R).mpr h)

/-- (*busbar/queue.Queue[busbar/api.Frame]).Pop -/
def S34 (q_0 : Value) (w : World) (R : Value → World → Prop) : Prop :=
  Run Try.prog (Instr.alloc 35 true (.tuple #[])) w fun t2 w1 =>
  Run Try.prog (Instr.alloc 35 true (.tuple #[])) w1 fun none_4 w2 =>
  GoN Try.prog (callFunc 44 #[q_0]) w2 fun t9 w3 =>
  Run Try.prog (Instr.extract t9 0) w3 fun t10 w4 =>
  Run Try.prog (Instr.extract t9 1) w4 fun t11 w5 =>
  Run Try.prog (Instr.alloc 35 true (.tuple #[])) w5 fun v_5 w6 =>
  RunU Try.prog (Instr.storeAt 35 v_5 t10) w6 fun w7 =>
  Run Try.prog (Op.unary Go.UnOp.not t11) w7 fun t13 w8 =>
  CondP t13 1 (fun (k1 : N1) =>
    Run Try.prog (Instr.loadAt 35 none_4) w8 fun t14 w9 =>
    Run Try.prog (Instr.makeInterface 70 (Go.Value.int Go.IntKind.i64 25)) w9 fun t15 w10 =>
    RunU Try.prog (Instr.storeAt 35 t2 t14) w10 fun w11 =>
    resK Try.prog t2 35 w11 fun r0 =>
    R (.tuple #[r0, t15]) w11)
  (fun (k2 : N1) =>
    k2 Go.Value.nilIface w8)
  (fun (t3 : Value) (w12 : World) => 
  ∀ w13, Ext w12 w13 →
  RunQ Try.prog (nilSem q_0) w13 fun t17 =>
  RunQ Try.prog (Instr.fieldAt 99 t17 0) w13 fun t18 =>
  RunQ Try.prog (Instr.loadAt 97 t18) w13 fun t19 =>
  RunQ Try.prog (nilSem q_0) w13 fun t21 =>
  RunQ Try.prog (Instr.fieldAt 99 t21 1) w13 fun t22 =>
  RunQ Try.prog (Instr.loadAt 3 t22) w13 fun t23 =>
  RunQ Try.prog (Instr.loadAt 35 none_4) w13 fun t24 =>
  RunQ Try.prog (Instr.indexAt 97 t19 t23) w13 fun t25 =>
  RunU Try.prog (Instr.storeAt 35 t25 t24) w13 fun w14 =>
  GoN Try.prog (callFunc 42 #[q_0, (Go.Value.int Go.IntKind.i64 1)]) w14 fun t28 w15 =>
  Run Try.prog (nilSem q_0) w15 fun t29 w16 =>
  Run Try.prog (Instr.fieldAt 99 t29 1) w16 fun t30 w17 =>
  RunU Try.prog (Instr.storeAt 3 t30 t28) w17 fun w18 =>
  Run Try.prog (nilSem q_0) w18 fun t32 w19 =>
  Run Try.prog (Instr.fieldAt 99 t32 2) w19 fun t33 w20 =>
  Run Try.prog (Instr.loadAt 3 t33) w20 fun t34 w21 =>
  Run Try.prog (binSem Go.BinOp.sub 3 (Go.Operand.tmp 34) (Go.Operand.const (Go.Value.int Go.IntKind.i64 1)) t34 (Go.Value.int Go.IntKind.i64 1)) w21 fun t35 w22 =>
  Run Try.prog (nilSem q_0) w22 fun t36 w23 =>
  Run Try.prog (Instr.fieldAt 99 t36 2) w23 fun t37 w24 =>
  RunU Try.prog (Instr.storeAt 3 t37 t35) w24 fun w25 =>
  Run Try.prog (Instr.loadAt 35 v_5) w25 fun t38 w26 =>
  RunU Try.prog (Instr.storeAt 35 t2 t38) w26 fun w27 =>
  resK Try.prog t2 35 w27 fun r0 =>
  R (.tuple #[r0, Go.Value.nilIface]) w27)
theorem S34_eq (q_0 : Value) (w : World) (R : Value → World → Prop) : vcFn Try.prog [] Try.f34 [q_0] w R = S34 q_0 w R := by kernel_rfl
theorem D34 {q_0 : Value} {w : World} {R : Value → World → Prop} (h : S34 q_0 w R) : Does Try.prog 34 [q_0] w R :=
  does_of_vc [] mixed Try.func34 (by kernel_rfl) (by kernel_rfl) ((S34_eq q_0 w R).mpr h)

end Go.Proofs.Ytfdjkdiebabimaa.Sh
