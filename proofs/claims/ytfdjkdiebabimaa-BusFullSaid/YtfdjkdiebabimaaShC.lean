/- The conditions of functions, printed by a program off the loaded code and held against it by the kernel. Conditions: none. -/
import Derived.Test.YtfdjkdiebabimaaV5
import Derived.Test.YtfdjkdiebabimaaProg
set_option linter.unusedVariables false
set_option maxRecDepth 100000
namespace Go.Proofs.Ytfdjkdiebabimaa.Sh
open Go Go.V
theorem mixed : Try.prog.follows .mixedOrders = true := by kernel_rfl
/-- busbar/frame.Bits -/
def S35 (f_0 : Value) (w : World) (R : Value → World → Prop) : Prop :=
  Run Try.prog (Instr.box 35 f_0) w fun f_1 w1 =>
  Run Try.prog (Instr.fieldAt 35 f_1 0) w1 fun t7 w2 =>
  Run Try.prog (Instr.loadAt 32 t7) w2 fun t8 w3 =>
  Run Try.prog (binSem Go.BinOp.gtr 32 (Go.Operand.tmp 8) (Go.Operand.const (Go.Value.int Go.IntKind.u32 536870911)) t8 (Go.Value.int Go.IntKind.u32 536870911)) w3 fun t9 w4 =>
  GuardP t9 false (fun (k1 : N1) => Run Try.prog (Instr.fieldAt 35 f_1 1) w4 k1) w4 fun t11 w5 =>
  GuardP t9 false (fun (k2 : N1) => Run Try.prog (Instr.loadAt 4 t11) w5 k2) w5 fun t12 w6 =>
  GuardP t9 false (fun (k3 : N1) => Run Try.prog (Op.unary Go.UnOp.not t12) w6 k3) w6 fun t13 w7 =>
  GuardP t9 false (fun (k4 : N1) => k4 t13 w7) w7 fun t14 w8 =>
  GuardP t14 true (fun (k5 : N1) => Run Try.prog (Instr.fieldAt 35 f_1 0) w8 k5) w8 fun t15 w9 =>
  GuardP t14 true (fun (k6 : N1) => Run Try.prog (Instr.loadAt 32 t15) w9 k6) w9 fun t16 w10 =>
  GuardP t14 true (fun (k7 : N1) => Run Try.prog (binSem Go.BinOp.gtr 32 (Go.Operand.tmp 16) (Go.Operand.const (Go.Value.int Go.IntKind.u32 2047)) t16 (Go.Value.int Go.IntKind.u32 2047)) w10 k7) w10 fun t17 w11 =>
  GuardP t9 false (fun (k8 : N1) => PickP t14 t17 (Go.Value.bool false) w11 k8) w11 fun t18 w12 =>
  PickP t9 (Go.Value.bool true) t18 w12 fun t19 w13 =>
  CondP t19 2 (fun (k9 : N2) =>
    Run Try.prog (Instr.makeInterface 70 (Go.Value.int Go.IntKind.i64 26)) w13 fun t20 w14 =>
    R (.tuple #[(Go.Value.slice none 0 0), t20]) w14)
  (fun (k10 : N2) =>
    k10 (Go.Value.slice none 0 0) Go.Value.nilIface w13)
  (fun (t2 : Value) (t3 : Value) (w15 : World) => 
  Run Try.prog (Instr.fieldAt 35 f_1 2) w15 fun t21 w16 =>
  Run Try.prog (Instr.loadAt 33 t21) w16 fun t22 w17 =>
  Run Try.prog (Builtin.len_ #[33] 3 #[t22]) w17 fun t23 w18 =>
  Run Try.prog (binSem Go.BinOp.gtr 3 (Go.Operand.tmp 23) (Go.Operand.const (Go.Value.int Go.IntKind.i64 8)) t23 (Go.Value.int Go.IntKind.i64 8)) w18 fun t24 w19 =>
  CondP t24 2 (fun (k11 : N2) =>
    Run Try.prog (Instr.makeInterface 70 (Go.Value.int Go.IntKind.i64 15)) w19 fun t25 w20 =>
    R (.tuple #[(Go.Value.slice none 0 0), t25]) w20)
  (fun (k12 : N2) =>
    k12 t2 t3 w19)
  (fun (t2 : Value) (t3 : Value) (w21 : World) => 
  Run Try.prog (Instr.fieldAt 35 f_1 2) w21 fun t26 w22 =>
  Run Try.prog (Instr.loadAt 33 t26) w22 fun t27 w23 =>
  Run Try.prog (Builtin.len_ #[33] 3 #[t27]) w23 fun t28 w24 =>
  Run Try.prog (binSem Go.BinOp.mul 3 (Go.Operand.const (Go.Value.int Go.IntKind.i64 8)) (Go.Operand.tmp 28) (Go.Value.int Go.IntKind.i64 8) t28) w24 fun t29 w25 =>
  Run Try.prog (binSem Go.BinOp.add 3 (Go.Operand.const (Go.Value.int Go.IntKind.i64 54)) (Go.Operand.tmp 29) (Go.Value.int Go.IntKind.i64 54) t29) w25 fun t30 w26 =>
  Run Try.prog (Instr.makeSlice 52 (Go.Value.int Go.IntKind.i64 1) t30) w26 fun t31 w27 =>
  Run Try.prog (Instr.fieldAt 35 f_1 1) w27 fun t32 w28 =>
  Run Try.prog (Instr.loadAt 4 t32) w28 fun t33 w29 =>
  CondP t33 1 (fun (k13 : N1) =>
    Run Try.prog (Instr.fieldAt 35 f_1 0) w29 fun t35 w30 =>
    Run Try.prog (Instr.loadAt 32 t35) w30 fun t36 w31 =>
    Run Try.prog (binSem Go.BinOp.shr 32 (Go.Operand.tmp 36) (Go.Operand.const (Go.Value.int Go.IntKind.u64 18)) t36 (Go.Value.int Go.IntKind.u64 18)) w31 fun t37 w32 =>
    GoN Try.prog (callFunc 47 #[t31, t37, (Go.Value.int Go.IntKind.i64 11)]) w32 fun t38 w33 =>
    GoN Try.prog (callFunc 47 #[t38, (Go.Value.int Go.IntKind.u32 3), (Go.Value.int Go.IntKind.i64 2)]) w33 fun t40 w34 =>
    Run Try.prog (Instr.fieldAt 35 f_1 0) w34 fun t42 w35 =>
    Run Try.prog (Instr.loadAt 32 t42) w35 fun t43 w36 =>
    GoN Try.prog (callFunc 47 #[t40, t43, (Go.Value.int Go.IntKind.i64 18)]) w36 fun t44 w37 =>
    GoN Try.prog (callFunc 47 #[t44, (Go.Value.int Go.IntKind.u32 0), (Go.Value.int Go.IntKind.i64 3)]) w37 fun t46 w38 =>
    k13 t46 w38)
  (fun (k14 : N1) =>
    Run Try.prog (Instr.fieldAt 35 f_1 0) w29 fun t48 w39 =>
    Run Try.prog (Instr.loadAt 32 t48) w39 fun t49 w40 =>
    GoN Try.prog (callFunc 47 #[t31, t49, (Go.Value.int Go.IntKind.i64 11)]) w40 fun t50 w41 =>
    GoN Try.prog (callFunc 47 #[t50, (Go.Value.int Go.IntKind.u32 0), (Go.Value.int Go.IntKind.i64 3)]) w41 fun t52 w42 =>
    k14 t52 w42)
  (fun (l_4 : Value) (w43 : World) => 
  Run Try.prog (Instr.fieldAt 35 f_1 2) w43 fun t54 w44 =>
  Run Try.prog (Instr.loadAt 33 t54) w44 fun t55 w45 =>
  Run Try.prog (Builtin.len_ #[33] 3 #[t55]) w45 fun t56 w46 =>
  Run Try.prog (convert 3 32 t56) w46 fun t57 w47 =>
  GoN Try.prog (callFunc 47 #[l_4, t57, (Go.Value.int Go.IntKind.i64 4)]) w47 fun t58 w48 =>
  Run Try.prog (Instr.fieldAt 35 f_1 2) w48 fun t59 w49 =>
  Run Try.prog (Instr.loadAt 33 t59) w49 fun t60 w50 =>
  Run Try.prog (Builtin.len_ #[33] 3 #[t60]) w50 fun t61 w51 =>
  JoinP 2 (fun (k15 : N2) =>
    LoopP 2 (fun (k16 : N2) => (fun (l_4 : Value) (t62 : Value) (w52 : World) => 
      Run Try.prog (binSem Go.BinOp.lss 3 (Go.Operand.tmp 62) (Go.Operand.tmp 61) t62 t61) w52 fun t63 w53 =>
      CondP t63 0 (fun (k17 : N0) =>
        k17 w53)
      (fun (k18 : N0) =>
        k15 l_4 t62 w53)
      (fun (w54 : World) => 
      JoinP 1 (fun (k19 : N1) =>
        Run Try.prog (Instr.indexAt 33 t60 t62) w54 fun t64 w55 =>
        Run Try.prog (Instr.loadAt 5 t64) w55 fun t65 w56 =>
        Run Try.prog (convert 5 32 t65) w56 fun t68 w57 =>
        GoN Try.prog (callFunc 47 #[l_4, t68, (Go.Value.int Go.IntKind.i64 8)]) w57 fun t69 w58 =>
        k19 t69 w58)
      (fun (l_4 : Value) (w59 : World) => 
      Run Try.prog (binSem Go.BinOp.add 3 (Go.Operand.tmp 62) (Go.Operand.const (Go.Value.int Go.IntKind.i64 1)) t62 (Go.Value.int Go.IntKind.i64 1)) w59 fun t70 w60 =>
      k16 l_4 t70 w60))))
    [t58, (Go.Value.int Go.IntKind.i64 0)] w51)
  (fun (l_4 : Value) (t62 : Value) (w61 : World) => 
  GoN Try.prog (callFunc 48 #[l_4]) w61 fun t73 w62 =>
  Run Try.prog (convert 111 32 t73) w62 fun t74 w63 =>
  GoN Try.prog (callFunc 47 #[l_4, t74, (Go.Value.int Go.IntKind.i64 15)]) w63 fun t75 w64 =>
  R (.tuple #[t75, Go.Value.nilIface]) w64))))
theorem S35_eq (f_0 : Value) (w : World) (R : Value → World → Prop) : vcFn Try.prog [] Try.f35 [f_0] w R = S35 f_0 w R := by kernel_rfl
theorem D35 {f_0 : Value} {w : World} {R : Value → World → Prop} (h : S35 f_0 w R) : Does Try.prog 35 [f_0] w R :=
  does_of_vc [] mixed Try.func35 (by kernel_rfl) (by kernel_rfl) ((S35_eq f_0 w R).mpr h)

/-- busbar/frame.Wire -/
def S36 (l_0 : Value) (w : World) (R : Value → World → Prop) : Prop :=
  GoN Try.prog (callFunc 49 #[l_0]) w fun t4 w1 =>
  GoN Try.prog (callFunc 47 #[t4, (Go.Value.int Go.IntKind.u32 1023), (Go.Value.int Go.IntKind.i64 10)]) w1 fun t5 w2 =>
  R t5 w2
theorem S36_eq (l_0 : Value) (w : World) (R : Value → World → Prop) : vcFn Try.prog [] Try.f36 [l_0] w R = S36 l_0 w R := by kernel_rfl
theorem D36 {l_0 : Value} {w : World} {R : Value → World → Prop} (h : S36 l_0 w R) : Does Try.prog 36 [l_0] w R :=
  does_of_vc [] mixed Try.func36 (by kernel_rfl) (by kernel_rfl) ((S36_eq l_0 w R).mpr h)

/-- busbar/queue.Ahead -/
def S37 (a_0 b_1 : Value) (w : World) (R : Value → World → Prop) : Prop :=
  Run Try.prog (Instr.box 35 a_0) w fun a_2 w1 =>
  Run Try.prog (Instr.box 35 b_1) w1 fun b_3 w2 =>
  ∀ w3, Ext w2 w3 →
  RunQ Try.prog (Instr.loadAt 35 a_2) w3 fun t5 =>
  GoN Try.prog (callFunc 50 #[t5]) w3 fun t6 w4 => Ext w3 w4 ∧
  RunQ Try.prog (Instr.loadAt 35 b_3) w3 fun t7 =>
  GoN Try.prog (callFunc 50 #[t7]) w4 fun t8 w5 => Ext w3 w5 ∧
  RunQ Try.prog (binSem Go.BinOp.lss 113 (Go.Operand.tmp 6) (Go.Operand.tmp 8) t6 t8) w3 fun t9 =>
  R t9 w5
theorem S37_eq (a_0 b_1 : Value) (w : World) (R : Value → World → Prop) : vcFn Try.prog [] Try.f37 [a_0, b_1] w R = S37 a_0 b_1 w R := by kernel_rfl
theorem D37 {a_0 b_1 : Value} {w : World} {R : Value → World → Prop} (h : S37 a_0 b_1 w R) : Does Try.prog 37 [a_0, b_1] w R :=
  does_of_vc [] mixed Try.func37 (by kernel_rfl) (by kernel_rfl) ((S37_eq a_0 b_1 w R).mpr h)

/-- busbar/busbarref0.SameBytes -/
def S38 (a_0 b_1 : Value) (w : World) (R : Value → World → Prop) : Prop :=
  Run Try.prog (Builtin.len_ #[33] 3 #[a_0]) w fun t7 w1 =>
  Run Try.prog (Builtin.len_ #[33] 3 #[b_1]) w1 fun t9 w2 =>
  Run Try.prog (binSem Go.BinOp.neq 3 (Go.Operand.tmp 7) (Go.Operand.tmp 9) t7 t9) w2 fun t10 w3 =>
  CondP t10 1 (fun (k1 : N1) =>
    R (Go.Value.bool false) w3)
  (fun (k2 : N1) =>
    k2 (Go.Value.bool false) w3)
  (fun (t4 : Value) (w4 : World) => 
  JoinP 2 (fun (k3 : N2) =>
    LoopP 2 (fun (k4 : N2) => (fun (t4 : Value) (i_5 : Value) (w5 : World) => 
      Run Try.prog (Builtin.len_ #[33] 3 #[a_0]) w5 fun t13 w6 =>
      Run Try.prog (binSem Go.BinOp.lss 3 (Go.Operand.tmp 11) (Go.Operand.tmp 13) i_5 t13) w6 fun t14 w7 =>
      CondP t14 0 (fun (k5 : N0) =>
        k5 w7)
      (fun (k6 : N0) =>
        k3 t4 i_5 w7)
      (fun (w8 : World) => 
      JoinP 1 (fun (k7 : N1) =>
        ∀ w9, Ext w8 w9 →
        RunQ Try.prog (Instr.indexAt 33 a_0 i_5) w9 fun t19 =>
        RunQ Try.prog (Instr.loadAt 5 t19) w9 fun t20 =>
        RunQ Try.prog (Instr.indexAt 33 b_1 i_5) w9 fun t23 =>
        RunQ Try.prog (Instr.loadAt 5 t23) w9 fun t24 =>
        RunQ Try.prog (binSem Go.BinOp.neq 5 (Go.Operand.tmp 20) (Go.Operand.tmp 24) t20 t24) w9 fun t25 =>
        CondP t25 1 (fun (k8 : N1) =>
          R (Go.Value.bool false) w9)
        (fun (k9 : N1) =>
          k9 t4 w9)
        (fun (t4 : Value) (w10 : World) => 
        k7 t4 w10))
      (fun (t4 : Value) (w11 : World) => 
      Run Try.prog (binSem Go.BinOp.add 3 (Go.Operand.tmp 15) (Go.Operand.const (Go.Value.int Go.IntKind.i64 1)) i_5 (Go.Value.int Go.IntKind.i64 1)) w11 fun t16 w12 =>
      k4 t4 t16 w12))))
    [t4, (Go.Value.int Go.IntKind.i64 0)] w4)
  (fun (t4 : Value) (i_5 : Value) (w13 : World) => 
  R (Go.Value.bool true) w13))
theorem S38_eq (a_0 b_1 : Value) (w : World) (R : Value → World → Prop) : vcFn Try.prog [] Try.f38 [a_0, b_1] w R = S38 a_0 b_1 w R := by kernel_rfl
theorem D38 {a_0 b_1 : Value} {w : World} {R : Value → World → Prop} (h : S38 a_0 b_1 w R) : Does Try.prog 38 [a_0, b_1] w R :=
  does_of_vc [] mixed Try.func38 (by kernel_rfl) (by kernel_rfl) ((S38_eq a_0 b_1 w R).mpr h)

/-- (*busbar/queue.Queue[busbar/api.Frame]).Len -/
def S39 (q_0 : Value) (w : World) (R : Value → World → Prop) : Prop :=
  Run Try.prog (nilSem q_0) w fun t4 w1 =>
  Run Try.prog (Instr.fieldAt 99 t4 2) w1 fun t5 w2 =>
  Run Try.prog (Instr.loadAt 3 t5) w2 fun t6 w3 =>
  R t6 w3
theorem S39_eq (q_0 : Value) (w : World) (R : Value → World → Prop) : vcFn Try.prog [] Try.f39 [q_0] w R = S39 q_0 w R := by kernel_rfl
theorem D39 {q_0 : Value} {w : World} {R : Value → World → Prop} (h : S39 q_0 w R) : Does Try.prog 39 [q_0] w R :=
  does_of_vc [] mixed Try.func39 (by kernel_rfl) (by kernel_rfl) ((S39_eq q_0 w R).mpr h)

/-- errors.is -/
def S41 (err_0 target_1 targetComparable_2 : Value) (w : World) (R : Value → World → Prop) : Prop :=
  JoinP 2 (fun (k1 : N2) =>
    LoopP 2 (fun (k2 : N2) => (fun (err_0 : Value) (t6 : Value) (w1 : World) => 
      JoinP 2 (fun (k3 : N2) =>
        GuardP targetComparable_2 true (fun (k4 : N1) => k4 err_0 w1) w1 fun t16 w2 =>
        GuardP targetComparable_2 true (fun (k5 : N1) => k5 target_1 w2) w2 fun t17 w3 =>
        GuardP targetComparable_2 true (fun (k6 : N1) => Run Try.prog (binSem Go.BinOp.eql 27 (Go.Operand.tmp 16) (Go.Operand.tmp 17) t16 t17) w3 k6) w3 fun t18 w4 =>
        PickP targetComparable_2 t18 (Go.Value.bool false) w4 fun t19 w5 =>
        CondP t19 1 (fun (k7 : N1) =>
          R (Go.Value.bool true) w5)
        (fun (k8 : N1) =>
          k8 t6 w5)
        (fun (t6 : Value) (w6 : World) => 
        Run Try.prog (Instr.typeAssert err_0 27 118 true) w6 fun t22 w7 =>
        Run Try.prog (Instr.extract t22 0) w7 fun t23 w8 =>
        Run Try.prog (Instr.extract t22 1) w8 fun t24 w9 =>
        GuardP t24 true (fun (k9 : N1) => k9 t23 w9) w9 fun t27 w10 =>
        GuardP t24 true (fun (k10 : N1) => k10 target_1 w10) w10 fun t28 w11 =>
        GuardP t24 true (fun (k11 : N1) => GoN Try.prog (callMethod t27 "Is" #[t28]) w11 k11) w11 fun t29 w12 =>
        PickP t24 t29 (Go.Value.bool false) w12 fun t30 w13 =>
        CondP t30 1 (fun (k12 : N1) =>
          R (Go.Value.bool true) w13)
        (fun (k13 : N1) =>
          k13 t6 w13)
        (fun (t6 : Value) (w14 : World) => 
        JoinP 2 (fun (k14 : N2) =>
          Run Try.prog (Instr.typeAssert err_0 27 121 true) w14 fun t32 w15 =>
          Run Try.prog (Instr.extract t32 1) w15 fun t33 w16 =>
          Run Try.prog (Instr.extract t32 0) w16 fun t34 w17 =>
          CondP t33 2 (fun (k15 : N2) =>
            GoN Try.prog (callMethod t34 "Unwrap" #[]) w17 fun t36 w18 =>
            Run Try.prog (binSem Go.BinOp.eql 27 (Go.Operand.tmp 37) (Go.Operand.const Go.Value.nilIface) t36 Go.Value.nilIface) w18 fun t38 w19 =>
            CondP t38 1 (fun (k16 : N1) =>
              R (Go.Value.bool false) w19)
            (fun (k17 : N1) =>
              k17 t6 w19)
            (fun (t6 : Value) (w20 : World) => 
            k15 t36 t6 w20))
          (fun (k18 : N2) =>
            Run Try.prog (Instr.typeAssert err_0 27 123 true) w17 fun t39 w21 =>
            Run Try.prog (Instr.extract t39 1) w21 fun t40 w22 =>
            Run Try.prog (Instr.extract t39 0) w22 fun t41 w23 =>
            CondP t40 1 (fun (k19 : N1) =>
              GoN Try.prog (callMethod t41 "Unwrap" #[]) w23 fun t43 w24 =>
              Run Try.prog (Builtin.len_ #[124] 3 #[t43]) w24 fun t44 w25 =>
              JoinP 2 (fun (k20 : N2) =>
                LoopP 2 (fun (k21 : N2) => (fun (t6 : Value) (t45 : Value) (w26 : World) => 
                  Run Try.prog (binSem Go.BinOp.lss 3 (Go.Operand.tmp 45) (Go.Operand.tmp 44) t45 t44) w26 fun t46 w27 =>
                  CondP t46 0 (fun (k22 : N0) =>
                    k22 w27)
                  (fun (k23 : N0) =>
                    k20 t6 t45 w27)
                  (fun (w28 : World) => 
                  JoinP 1 (fun (k24 : N1) =>
                    Run Try.prog (Instr.indexAt 124 t43 t45) w28 fun t47 w29 =>
                    Run Try.prog (Instr.loadAt 27 t47) w29 fun t48 w30 =>
                    GoN Try.prog (callFunc 41 #[t48, target_1, targetComparable_2]) w30 fun t52 w31 =>
                    CondP t52 1 (fun (k25 : N1) =>
                      R (Go.Value.bool true) w31)
                    (fun (k26 : N1) =>
                      k26 t6 w31)
                    (fun (t6 : Value) (w32 : World) => 
                    k24 t6 w32))
                  (fun (t6 : Value) (w33 : World) => 
                  Run Try.prog (binSem Go.BinOp.add 3 (Go.Operand.tmp 45) (Go.Operand.const (Go.Value.int Go.IntKind.i64 1)) t45 (Go.Value.int Go.IntKind.i64 1)) w33 fun t53 w34 =>
                  k21 t6 t53 w34))))
                [t6, (Go.Value.int Go.IntKind.i64 0)] w25)
              (fun (t6 : Value) (t45 : Value) (w35 : World) => 
              R (Go.Value.bool false) w35))
            (fun (k27 : N1) =>
              R (Go.Value.bool false) w23)
            (fun (t6 : Value) (w36 : World) => 
            k18 err_0 t6 w36))
          (fun (err_0 : Value) (t6 : Value) (w37 : World) => 
          k14 err_0 t6 w37))
        (fun (err_0 : Value) (t6 : Value) (w38 : World) => 
        k3 err_0 t6 w38))))
      (fun (err_0 : Value) (t6 : Value) (w39 : World) => 
      k2 err_0 t6 w39)))
    [err_0, (Go.Value.bool false)] w)
  (fun (err_0 : Value) (t6 : Value) (w40 : World) => 
  R t6 w40)
theorem S41_eq (err_0 target_1 targetComparable_2 : Value) (w : World) (R : Value → World → Prop) : vcFn Try.prog [] Try.f41 [err_0, target_1, targetComparable_2] w R = S41 err_0 target_1 targetComparable_2 w R := by kernel_rfl
theorem D41 {err_0 target_1 targetComparable_2 : Value} {w : World} {R : Value → World → Prop} (h : S41 err_0 target_1 targetComparable_2 w R) : Does Try.prog 41 [err_0, target_1, targetComparable_2] w R :=
  does_of_vc [] mixed Try.func41 (by kernel_rfl) (by kernel_rfl) ((S41_eq err_0 target_1 targetComparable_2 w R).mpr h)

/-- (*busbar/queue.Queue[busbar/api.Frame]).at -/
def S42 (q_0 i_1 : Value) (w : World) (R : Value → World → Prop) : Prop :=
  ∀ w1, Ext w w1 →
  RunQ Try.prog (nilSem q_0) w1 fun t6 =>
  RunQ Try.prog (Instr.fieldAt 99 t6 1) w1 fun t7 =>
  RunQ Try.prog (Instr.loadAt 3 t7) w1 fun t8 =>
  RunQ Try.prog (binSem Go.BinOp.add 3 (Go.Operand.tmp 8) (Go.Operand.tmp 9) t8 i_1) w1 fun t10 =>
  RunQ Try.prog (nilSem q_0) w1 fun t12 =>
  RunQ Try.prog (Instr.fieldAt 99 t12 0) w1 fun t13 =>
  RunQ Try.prog (Instr.loadAt 97 t13) w1 fun t14 =>
  RunQ Try.prog (Builtin.len_ #[97] 3 #[t14]) w1 fun t15 =>
  RunQ Try.prog (binSem Go.BinOp.rem 3 (Go.Operand.tmp 10) (Go.Operand.tmp 15) t10 t15) w1 fun t16 =>
  R t16 w1
theorem S42_eq (q_0 i_1 : Value) (w : World) (R : Value → World → Prop) : vcFn Try.prog [] Try.f42 [q_0, i_1] w R = S42 q_0 i_1 w R := by kernel_rfl
theorem D42 {q_0 i_1 : Value} {w : World} {R : Value → World → Prop} (h : S42 q_0 i_1 w R) : Does Try.prog 42 [q_0, i_1] w R :=
  does_of_vc [] mixed Try.func42 (by kernel_rfl) (by kernel_rfl) ((S42_eq q_0 i_1 w R).mpr h)

/-- slices.Clone[[]byte,byte] -/
def S43 (s_0 : Value) (w : World) (R : Value → World → Prop) : Prop :=
  Run Try.prog (binSem Go.BinOp.eql 33 (Go.Operand.tmp 3) (Go.Operand.const (Go.Value.slice none 0 0)) s_0 (Go.Value.slice none 0 0)) w fun t4 w1 =>
  CondP t4 1 (fun (k1 : N1) =>
    R (Go.Value.slice none 0 0) w1)
  (fun (k2 : N1) =>
    k2 (Go.Value.slice none 0 0) w1)
  (fun (t2 : Value) (w2 : World) => 
  Run Try.prog (Instr.buildSlice 33 0 #[]) w2 fun t5 w3 =>
  Run Try.prog (Builtin.append_ #[33, 33] 33 #[t5, s_0]) w3 fun t7 w4 =>
  R t7 w4)
theorem S43_eq (s_0 : Value) (w : World) (R : Value → World → Prop) : vcFn Try.prog [] Try.f43 [s_0] w R = S43 s_0 w R := by kernel_rfl
theorem D43 {s_0 : Value} {w : World} {R : Value → World → Prop} (h : S43 s_0 w R) : Does Try.prog 43 [s_0] w R :=
  does_of_vc [] mixed Try.func43 (by kernel_rfl) (by kernel_rfl) ((S43_eq s_0 w R).mpr h)

/-- (*busbar/queue.Queue[busbar/api.Frame]).Peek -/
def S44 (q_0 : Value) (w : World) (R : Value → World → Prop) : Prop :=
  Run Try.prog (Instr.alloc 35 true (.tuple #[])) w fun t2 w1 =>
  Run Try.prog (nilSem q_0) w1 fun t6 w2 =>
  Run Try.prog (Instr.fieldAt 99 t6 2) w2 fun t7 w3 =>
  Run Try.prog (Instr.loadAt 3 t7) w3 fun t8 w4 =>
  Run Try.prog (binSem Go.BinOp.eql 3 (Go.Operand.tmp 8) (Go.Operand.const (Go.Value.int Go.IntKind.i64 0)) t8 (Go.Value.int Go.IntKind.i64 0)) w4 fun t9 w5 =>
  CondP t9 1 (fun (k1 : N1) =>
    Run Try.prog (Instr.alloc 35 true (.tuple #[])) w5 fun none_4 w6 =>
    Run Try.prog (Instr.loadAt 35 none_4) w6 fun t10 w7 =>
    RunU Try.prog (Instr.storeAt 35 t2 t10) w7 fun w8 =>
    resK Try.prog t2 35 w8 fun r0 =>
    R (.tuple #[r0, (Go.Value.bool false)]) w8)
  (fun (k2 : N1) =>
    k2 (Go.Value.bool false) w5)
  (fun (t3 : Value) (w9 : World) => 
  ∀ w10, Ext w9 w10 →
  RunQ Try.prog (nilSem q_0) w10 fun t12 =>
  RunQ Try.prog (Instr.fieldAt 99 t12 0) w10 fun t13 =>
  RunQ Try.prog (Instr.loadAt 97 t13) w10 fun t14 =>
  RunQ Try.prog (nilSem q_0) w10 fun t16 =>
  RunQ Try.prog (Instr.fieldAt 99 t16 1) w10 fun t17 =>
  RunQ Try.prog (Instr.loadAt 3 t17) w10 fun t18 =>
  RunQ Try.prog (Instr.indexAt 97 t14 t18) w10 fun t19 =>
  RunQ Try.prog (Instr.loadAt 35 t19) w10 fun t20 =>
  RunU Try.prog (Instr.storeAt 35 t2 t20) w10 fun w11 =>
  resK Try.prog t2 35 w11 fun r0 =>
  R (.tuple #[r0, (Go.Value.bool true)]) w11)
theorem S44_eq (q_0 : Value) (w : World) (R : Value → World → Prop) : vcFn Try.prog [] Try.f44 [q_0] w R = S44 q_0 w R := by kernel_rfl
theorem D44 {q_0 : Value} {w : World} {R : Value → World → Prop} (h : S44 q_0 w R) : Does Try.prog 44 [q_0] w R :=
  does_of_vc [] mixed Try.func44 (by kernel_rfl) (by kernel_rfl) ((S44_eq q_0 w R).mpr h)

/-- busbar/frame.Decode -/
def S45 (l_0 : Value) (w : World) (R : Value → World → Prop) : Prop :=
  Run Try.prog (Instr.alloc 35 true (.tuple #[])) w fun t2 w1 =>
  Run Try.prog (Builtin.len_ #[52] 3 #[l_0]) w1 fun t12 w2 =>
  Run Try.prog (binSem Go.BinOp.lss 3 (Go.Operand.tmp 12) (Go.Operand.const (Go.Value.int Go.IntKind.i64 10)) t12 (Go.Value.int Go.IntKind.i64 10)) w2 fun t13 w3 =>
  CondP t13 1 (fun (k1 : N1) =>
    Run Try.prog (Instr.build 35 #[]) w3 fun t14 w4 =>
    Run Try.prog (Instr.makeInterface 70 (Go.Value.int Go.IntKind.i64 2)) w4 fun t15 w5 =>
    RunU Try.prog (Instr.storeAt 35 t2 t14) w5 fun w6 =>
    resK Try.prog t2 35 w6 fun r0 =>
    R (.tuple #[r0, t15]) w6)
  (fun (k2 : N1) =>
    k2 Go.Value.nilIface w3)
  (fun (t3 : Value) (w7 : World) => 
  Run Try.prog (Builtin.len_ #[52] 3 #[l_0]) w7 fun t18 w8 =>
  Run Try.prog (binSem Go.BinOp.sub 3 (Go.Operand.tmp 18) (Go.Operand.const (Go.Value.int Go.IntKind.i64 10)) t18 (Go.Value.int Go.IntKind.i64 10)) w8 fun t19 w9 =>
  Run Try.prog (Instr.build 127 #[(0, l_0), (1, t19)]) w9 fun t20 w10 =>
  Run Try.prog (Instr.alloc 127 true (.tuple #[])) w10 fun end_4 w11 =>
  RunU Try.prog (Instr.storeAt 127 end_4 t20) w11 fun w12 =>
  GoN Try.prog (callFunc 51 #[end_4, (Go.Value.int Go.IntKind.i64 10)]) w12 fun t21 w13 =>
  Run Try.prog (binSem Go.BinOp.neq 32 (Go.Operand.tmp 21) (Go.Operand.const (Go.Value.int Go.IntKind.u32 1023)) t21 (Go.Value.int Go.IntKind.u32 1023)) w13 fun t22 w14 =>
  CondP t22 1 (fun (k3 : N1) =>
    Run Try.prog (Instr.build 35 #[]) w14 fun t23 w15 =>
    Run Try.prog (Instr.makeInterface 70 (Go.Value.int Go.IntKind.i64 4)) w15 fun t24 w16 =>
    RunU Try.prog (Instr.storeAt 35 t2 t23) w16 fun w17 =>
    resK Try.prog t2 35 w17 fun r0 =>
    R (.tuple #[r0, t24]) w17)
  (fun (k4 : N1) =>
    k4 t3 w14)
  (fun (t3 : Value) (w18 : World) => 
  Run Try.prog (Builtin.len_ #[52] 3 #[l_0]) w18 fun t28 w19 =>
  Run Try.prog (binSem Go.BinOp.sub 3 (Go.Operand.tmp 28) (Go.Operand.const (Go.Value.int Go.IntKind.i64 10)) t28 (Go.Value.int Go.IntKind.i64 10)) w19 fun t29 w20 =>
  Run Try.prog (Instr.sliceAt 52 l_0 none (some t29) none) w20 fun t30 w21 =>
  GoN Try.prog (callFunc 52 #[t30]) w21 fun t31 w22 =>
  Run Try.prog (Instr.extract t31 0) w22 fun t32 w23 =>
  Run Try.prog (Instr.extract t31 1) w23 fun t33 w24 =>
  Run Try.prog (binSem Go.BinOp.neq 27 (Go.Operand.tmp 34) (Go.Operand.const Go.Value.nilIface) t33 Go.Value.nilIface) w24 fun t35 w25 =>
  CondP t35 1 (fun (k5 : N1) =>
    Run Try.prog (Instr.build 35 #[]) w25 fun t36 w26 =>
    RunU Try.prog (Instr.storeAt 35 t2 t36) w26 fun w27 =>
    resK Try.prog t2 35 w27 fun r0 =>
    R (.tuple #[r0, t33]) w27)
  (fun (k6 : N1) =>
    k6 t3 w25)
  (fun (t3 : Value) (w28 : World) => 
  Run Try.prog (Instr.build 127 #[(0, t32)]) w28 fun t39 w29 =>
  Run Try.prog (Instr.box 127 t39) w29 fun t40 w30 =>
  Run Try.prog (Instr.makeFunc (Go.Fn.func 53) #[t40] #[]) w30 fun t42 w31 =>
  Run Try.prog (Instr.makeFunc (Go.Fn.func 54) #[t40] #[]) w31 fun t44 w32 =>
  Run Try.prog (Instr.makeFunc (Go.Fn.func 55) #[t40] #[]) w32 fun t46 w33 =>
  Run Try.prog (Instr.makeFunc (Go.Fn.func 56) #[t40] #[]) w33 fun t48 w34 =>
  Run Try.prog (Instr.makeFunc (Go.Fn.func 57) #[t40] #[]) w34 fun t50 w35 =>
  Run Try.prog (Instr.buildSlice 131 5 #[(0, t42), (1, t44), (2, t46), (3, t48), (4, t50)]) w35 fun t51 w36 =>
  Run Try.prog (Builtin.len_ #[131] 3 #[t51]) w36 fun t52 w37 =>
  JoinP 2 (fun (k7 : N2) =>
    LoopP 2 (fun (k8 : N2) => (fun (t3 : Value) (t53 : Value) (w38 : World) => 
      Run Try.prog (binSem Go.BinOp.lss 3 (Go.Operand.tmp 53) (Go.Operand.tmp 52) t53 t52) w38 fun t54 w39 =>
      CondP t54 0 (fun (k9 : N0) =>
        k9 w39)
      (fun (k10 : N0) =>
        k7 t3 t53 w39)
      (fun (w40 : World) => 
      JoinP 1 (fun (k11 : N1) =>
        Run Try.prog (Instr.indexAt 131 t51 t53) w40 fun t55 w41 =>
        Run Try.prog (Instr.loadAt 122 t55) w41 fun t56 w42 =>
        GoN Try.prog (do let d ← Deferred.ofValue t56 #[]; invoke d.target d.args) w42 fun t58 w43 =>
        Run Try.prog (binSem Go.BinOp.neq 27 (Go.Operand.tmp 59) (Go.Operand.const Go.Value.nilIface) t58 Go.Value.nilIface) w43 fun t60 w44 =>
        CondP t60 1 (fun (k12 : N1) =>
          Run Try.prog (Instr.build 35 #[]) w44 fun t61 w45 =>
          RunU Try.prog (Instr.storeAt 35 t2 t61) w45 fun w46 =>
          resK Try.prog t2 35 w46 fun r0 =>
          R (.tuple #[r0, t58]) w46)
        (fun (k13 : N1) =>
          k13 t3 w44)
        (fun (t3 : Value) (w47 : World) => 
        k11 t3 w47))
      (fun (t3 : Value) (w48 : World) => 
      Run Try.prog (binSem Go.BinOp.add 3 (Go.Operand.tmp 53) (Go.Operand.const (Go.Value.int Go.IntKind.i64 1)) t53 (Go.Value.int Go.IntKind.i64 1)) w48 fun t63 w49 =>
      k8 t3 t63 w49))))
    [t3, (Go.Value.int Go.IntKind.i64 0)] w37)
  (fun (t3 : Value) (t53 : Value) (w50 : World) => 
  Run Try.prog (nilSem t40) w50 fun t65 w51 =>
  Run Try.prog (Instr.fieldAt 127 t65 2) w51 fun t66 w52 =>
  Run Try.prog (Instr.loadAt 35 t66) w52 fun t67 w53 =>
  RunU Try.prog (Instr.storeAt 35 t2 t67) w53 fun w54 =>
  resK Try.prog t2 35 w54 fun r0 =>
  R (.tuple #[r0, Go.Value.nilIface]) w54))))
theorem S45_eq (l_0 : Value) (w : World) (R : Value → World → Prop) : vcFn Try.prog [] Try.f45 [l_0] w R = S45 l_0 w R := by kernel_rfl
theorem D45 {l_0 : Value} {w : World} {R : Value → World → Prop} (h : S45 l_0 w R) : Does Try.prog 45 [l_0] w R :=
  does_of_vc [] mixed Try.func45 (by kernel_rfl) (by kernel_rfl) ((S45_eq l_0 w R).mpr h)

/-- (*busbar/bus.Bus).tell -/
def S46 (b_0 from_1 f_2 err_3 : Value) (w : World) (R : Value → World → Prop) : Prop :=
  Run Try.prog (Instr.box 35 f_2) w fun f_6 w1 =>
  Run Try.prog (nilSem b_0) w1 fun t12 w2 =>
  Run Try.prog (Instr.fieldAt 74 t12 0) w2 fun t13 w3 =>
  Run Try.prog (Instr.loadAt 71 t13) w3 fun t14 w4 =>
  Run Try.prog (Builtin.len_ #[71] 3 #[t14]) w4 fun t15 w5 =>
  JoinP 1 (fun (k1 : N1) =>
    LoopP 1 (fun (k2 : N1) => (fun (t16 : Value) (w6 : World) => 
      Run Try.prog (binSem Go.BinOp.lss 3 (Go.Operand.tmp 16) (Go.Operand.tmp 15) t16 t15) w6 fun t17 w7 =>
      CondP t17 0 (fun (k3 : N0) =>
        k3 w7)
      (fun (k4 : N0) =>
        k1 t16 w7)
      (fun (w8 : World) => 
      JoinP 0 (fun (k5 : N0) =>
        Run Try.prog (Instr.indexAt 71 t14 t16) w8 fun t19 w9 =>
        Run Try.prog (Instr.loadAt 78 t19) w9 fun t20 w10 =>
        Run Try.prog (Instr.makeInterface 78 t20) w10 fun t22 w11 =>
        Run Try.prog (binSem Go.BinOp.neq 3 (Go.Operand.tmp 23) (Go.Operand.tmp 24) t16 from_1) w11 fun t25 w12 =>
        CondP t25 0 (fun (k6 : N0) =>
          Run Try.prog (Instr.loadAt 35 f_6) w12 fun t27 w13 =>
          GoN Try.prog (callMethod t22 "busbar/bus.hear" #[t27, err_3]) w13 fun t29 w14 =>
          k6 w14)
        (fun (k7 : N0) =>
          k7 w12)
        (fun (w15 : World) => 
        k5 w15))
      (fun (w16 : World) => 
      Run Try.prog (binSem Go.BinOp.add 3 (Go.Operand.tmp 16) (Go.Operand.const (Go.Value.int Go.IntKind.i64 1)) t16 (Go.Value.int Go.IntKind.i64 1)) w16 fun t30 w17 =>
      k2 t30 w17))))
    [(Go.Value.int Go.IntKind.i64 0)] w5)
  (fun (t16 : Value) (w18 : World) => 
  R (.tuple #[]) w18)
theorem S46_eq (b_0 from_1 f_2 err_3 : Value) (w : World) (R : Value → World → Prop) : vcFn Try.prog [] Try.f46 [b_0, from_1, f_2, err_3] w R = S46 b_0 from_1 f_2 err_3 w R := by kernel_rfl
theorem D46 {b_0 from_1 f_2 err_3 : Value} {w : World} {R : Value → World → Prop} (h : S46 b_0 from_1 f_2 err_3 w R) : Does Try.prog 46 [b_0, from_1, f_2, err_3] w R :=
  does_of_vc [] mixed Try.func46 (by kernel_rfl) (by kernel_rfl) ((S46_eq b_0 from_1 f_2 err_3 w R).mpr h)

/-- busbar/frame.put -/
def S47 (l_0 v_1 n_2 : Value) (w : World) (R : Value → World → Prop) : Prop :=
  Run Try.prog (binSem Go.BinOp.sub 3 (Go.Operand.tmp 8) (Go.Operand.const (Go.Value.int Go.IntKind.i64 1)) n_2 (Go.Value.int Go.IntKind.i64 1)) w fun t9 w1 =>
  JoinP 2 (fun (k1 : N2) =>
    LoopP 2 (fun (k2 : N2) => (fun (l_0 : Value) (i_7 : Value) (w2 : World) => 
      Run Try.prog (binSem Go.BinOp.geq 3 (Go.Operand.tmp 10) (Go.Operand.const (Go.Value.int Go.IntKind.i64 0)) i_7 (Go.Value.int Go.IntKind.i64 0)) w2 fun t11 w3 =>
      CondP t11 0 (fun (k3 : N0) =>
        k3 w3)
      (fun (k4 : N0) =>
        k1 l_0 i_7 w3)
      (fun (w4 : World) => 
      JoinP 1 (fun (k5 : N1) =>
        Run Try.prog (binSem Go.BinOp.shr 32 (Go.Operand.tmp 15) (Go.Operand.tmp 16) v_1 i_7) w4 fun t17 w5 =>
        Run Try.prog (binSem Go.BinOp.and 32 (Go.Operand.tmp 17) (Go.Operand.const (Go.Value.int Go.IntKind.u32 1)) t17 (Go.Value.int Go.IntKind.u32 1)) w5 fun t18 w6 =>
        Run Try.prog (binSem Go.BinOp.eql 32 (Go.Operand.tmp 18) (Go.Operand.const (Go.Value.int Go.IntKind.u32 1)) t18 (Go.Value.int Go.IntKind.u32 1)) w6 fun t19 w7 =>
        Run Try.prog (Instr.buildSlice 52 1 #[(0, t19)]) w7 fun t20 w8 =>
        Run Try.prog (Builtin.append_ #[52, 52] 52 #[l_0, t20]) w8 fun t21 w9 =>
        k5 t21 w9)
      (fun (l_0 : Value) (w10 : World) => 
      Run Try.prog (binSem Go.BinOp.sub 3 (Go.Operand.tmp 12) (Go.Operand.const (Go.Value.int Go.IntKind.i64 1)) i_7 (Go.Value.int Go.IntKind.i64 1)) w10 fun t13 w11 =>
      k2 l_0 t13 w11))))
    [l_0, t9] w1)
  (fun (l_0 : Value) (i_7 : Value) (w12 : World) => 
  R l_0 w12)
theorem S47_eq (l_0 v_1 n_2 : Value) (w : World) (R : Value → World → Prop) : vcFn Try.prog [] Try.f47 [l_0, v_1, n_2] w R = S47 l_0 v_1 n_2 w R := by kernel_rfl
theorem D47 {l_0 v_1 n_2 : Value} {w : World} {R : Value → World → Prop} (h : S47 l_0 v_1 n_2 w R) : Does Try.prog 47 [l_0, v_1, n_2] w R :=
  does_of_vc [] mixed Try.func47 (by kernel_rfl) (by kernel_rfl) ((S47_eq l_0 v_1 n_2 w R).mpr h)

/-- busbar/crc.Sum -/
def S48 (l_0 : Value) (w : World) (R : Value → World → Prop) : Prop :=
  GoN Try.prog (callFunc 58 #[]) w fun t6 w1 =>
  Run Try.prog (Builtin.len_ #[52] 3 #[l_0]) w1 fun t8 w2 =>
  JoinP 1 (fun (k1 : N1) =>
    LoopP 1 (fun (k2 : N1) => (fun (t9 : Value) (w3 : World) => 
      Run Try.prog (binSem Go.BinOp.lss 3 (Go.Operand.tmp 9) (Go.Operand.tmp 8) t9 t8) w3 fun t10 w4 =>
      CondP t10 0 (fun (k3 : N0) =>
        k3 w4)
      (fun (k4 : N0) =>
        k1 t9 w4)
      (fun (w5 : World) => 
      JoinP 0 (fun (k5 : N0) =>
        Run Try.prog (Instr.indexAt 52 l_0 t9) w5 fun t11 w6 =>
        Run Try.prog (Instr.loadAt 4 t11) w6 fun t12 w7 =>
        Run Try.prog (nilSem t6) w7 fun t14 w8 =>
        Run Try.prog (Instr.fieldAt 141 t14 0) w8 fun t15 w9 =>
        GoN Try.prog (callFunc 59 #[t15, t12]) w9 fun t17 w10 =>
        k5 w10)
      (fun (w11 : World) => 
      Run Try.prog (binSem Go.BinOp.add 3 (Go.Operand.tmp 9) (Go.Operand.const (Go.Value.int Go.IntKind.i64 1)) t9 (Go.Value.int Go.IntKind.i64 1)) w11 fun t18 w12 =>
      k2 t18 w12))))
    [(Go.Value.int Go.IntKind.i64 0)] w2)
  (fun (t9 : Value) (w13 : World) => 
  Run Try.prog (nilSem t6) w13 fun t20 w14 =>
  Run Try.prog (Instr.fieldAt 141 t20 0) w14 fun t21 w15 =>
  GoN Try.prog (callFunc 60 #[t21]) w15 fun t22 w16 =>
  R t22 w16)
theorem S48_eq (l_0 : Value) (w : World) (R : Value → World → Prop) : vcFn Try.prog [] Try.f48 [l_0] w R = S48 l_0 w R := by kernel_rfl
theorem D48 {l_0 : Value} {w : World} {R : Value → World → Prop} (h : S48 l_0 w R) : Does Try.prog 48 [l_0] w R :=
  does_of_vc [] mixed Try.func48 (by kernel_rfl) (by kernel_rfl) ((S48_eq l_0 w R).mpr h)

/-- busbar/stuff.Stuff -/
def S49 (l_0 : Value) (w : World) (R : Value → World → Prop) : Prop :=
  Run Try.prog (Builtin.len_ #[52] 3 #[l_0]) w fun t9 w1 =>
  Run Try.prog (Builtin.len_ #[52] 3 #[l_0]) w1 fun t11 w2 =>
  Run Try.prog (binSem Go.BinOp.quo 3 (Go.Operand.tmp 11) (Go.Operand.const (Go.Value.int Go.IntKind.i64 4)) t11 (Go.Value.int Go.IntKind.i64 4)) w2 fun t12 w3 =>
  Run Try.prog (binSem Go.BinOp.add 3 (Go.Operand.tmp 9) (Go.Operand.tmp 12) t9 t12) w3 fun t13 w4 =>
  Run Try.prog (binSem Go.BinOp.add 3 (Go.Operand.tmp 13) (Go.Operand.const (Go.Value.int Go.IntKind.i64 1)) t13 (Go.Value.int Go.IntKind.i64 1)) w4 fun t14 w5 =>
  Run Try.prog (Instr.makeSlice 52 (Go.Value.int Go.IntKind.i64 0) t14) w5 fun t15 w6 =>
  Run Try.prog (Instr.alloc 144 true (.tuple #[])) w6 fun r_4 w7 =>
  Run Try.prog (Builtin.len_ #[52] 3 #[l_0]) w7 fun t17 w8 =>
  JoinP 2 (fun (k1 : N2) =>
    LoopP 2 (fun (k2 : N2) => (fun (room_3 : Value) (t18 : Value) (w9 : World) => 
      Run Try.prog (binSem Go.BinOp.lss 3 (Go.Operand.tmp 18) (Go.Operand.tmp 17) t18 t17) w9 fun t19 w10 =>
      CondP t19 0 (fun (k3 : N0) =>
        k3 w10)
      (fun (k4 : N0) =>
        k1 room_3 t18 w10)
      (fun (w11 : World) => 
      JoinP 1 (fun (k5 : N1) =>
        Run Try.prog (Instr.indexAt 52 l_0 t18) w11 fun t20 w12 =>
        Run Try.prog (Instr.loadAt 4 t20) w12 fun t21 w13 =>
        Run Try.prog (Instr.buildSlice 52 1 #[(0, t21)]) w13 fun t24 w14 =>
        Run Try.prog (Builtin.append_ #[52, 52] 52 #[room_3, t24]) w14 fun t25 w15 =>
        GoN Try.prog (callFunc 61 #[r_4, t21]) w15 fun t27 w16 =>
        CondP t27 1 (fun (k6 : N1) =>
          Run Try.prog (Op.unary Go.UnOp.not t21) w16 fun t30 w17 =>
          Run Try.prog (Instr.buildSlice 52 1 #[(0, t30)]) w17 fun t31 w18 =>
          Run Try.prog (Builtin.append_ #[52, 52] 52 #[t25, t31]) w18 fun t32 w19 =>
          Run Try.prog (Op.unary Go.UnOp.not t21) w19 fun t34 w20 =>
          Run Try.prog (Instr.build 144 #[(0, t34), (1, (Go.Value.int Go.IntKind.i64 1))]) w20 fun t35 w21 =>
          RunU Try.prog (Instr.storeAt 144 r_4 t35) w21 fun w22 =>
          k6 t32 w22)
        (fun (k7 : N1) =>
          k7 t25 w16)
        (fun (room_3 : Value) (w23 : World) => 
        k5 room_3 w23))
      (fun (room_3 : Value) (w24 : World) => 
      Run Try.prog (binSem Go.BinOp.add 3 (Go.Operand.tmp 18) (Go.Operand.const (Go.Value.int Go.IntKind.i64 1)) t18 (Go.Value.int Go.IntKind.i64 1)) w24 fun t36 w25 =>
      k2 room_3 t36 w25))))
    [t15, (Go.Value.int Go.IntKind.i64 0)] w8)
  (fun (room_3 : Value) (t18 : Value) (w26 : World) => 
  Run Try.prog (Builtin.len_ #[52] 3 #[room_3]) w26 fun t38 w27 =>
  Run Try.prog (Instr.makeSlice 52 t38 t38) w27 fun t39 w28 =>
  Run Try.prog (Builtin.copy_ #[52, 52] 3 #[t39, room_3]) w28 fun t42 w29 =>
  R t39 w29)
theorem S49_eq (l_0 : Value) (w : World) (R : Value → World → Prop) : vcFn Try.prog [] Try.f49 [l_0] w R = S49 l_0 w R := by kernel_rfl
theorem D49 {l_0 : Value} {w : World} {R : Value → World → Prop} (h : S49 l_0 w R) : Does Try.prog 49 [l_0] w R :=
  does_of_vc [] mixed Try.func49 (by kernel_rfl) (by kernel_rfl) ((S49_eq l_0 w R).mpr h)

/-- busbar/queue.order -/
def S50 (f_0 : Value) (w : World) (R : Value → World → Prop) : Prop :=
  Run Try.prog (Instr.box 35 f_0) w fun f_1 w1 =>
  Run Try.prog (Instr.fieldAt 35 f_1 1) w1 fun t4 w2 =>
  Run Try.prog (Instr.loadAt 4 t4) w2 fun t5 w3 =>
  Run Try.prog (Op.unary Go.UnOp.not t5) w3 fun t6 w4 =>
  CondP t6 1 (fun (k1 : N1) =>
    Run Try.prog (Instr.fieldAt 35 f_1 0) w4 fun t7 w5 =>
    Run Try.prog (Instr.loadAt 32 t7) w5 fun t8 w6 =>
    Run Try.prog (binSem Go.BinOp.and 32 (Go.Operand.tmp 8) (Go.Operand.const (Go.Value.int Go.IntKind.u32 2047)) t8 (Go.Value.int Go.IntKind.u32 2047)) w6 fun t9 w7 =>
    Run Try.prog (convert 32 113 t9) w7 fun t10 w8 =>
    Run Try.prog (binSem Go.BinOp.shl 113 (Go.Operand.tmp 10) (Go.Operand.const (Go.Value.int Go.IntKind.u64 20)) t10 (Go.Value.int Go.IntKind.u64 20)) w8 fun t11 w9 =>
    R t11 w9)
  (fun (k2 : N1) =>
    k2 (Go.Value.int Go.IntKind.u64 0) w4)
  (fun (t2 : Value) (w10 : World) => 
  Run Try.prog (Instr.fieldAt 35 f_1 0) w10 fun t12 w11 =>
  Run Try.prog (Instr.loadAt 32 t12) w11 fun t13 w12 =>
  Run Try.prog (binSem Go.BinOp.and 32 (Go.Operand.tmp 13) (Go.Operand.const (Go.Value.int Go.IntKind.u32 536870911)) t13 (Go.Value.int Go.IntKind.u32 536870911)) w12 fun t14 w13 =>
  Run Try.prog (convert 32 113 t14) w13 fun t15 w14 =>
  Run Try.prog (binSem Go.BinOp.shr 113 (Go.Operand.tmp 16) (Go.Operand.const (Go.Value.int Go.IntKind.u64 18)) t15 (Go.Value.int Go.IntKind.u64 18)) w14 fun t17 w15 =>
  Run Try.prog (binSem Go.BinOp.shl 113 (Go.Operand.tmp 17) (Go.Operand.const (Go.Value.int Go.IntKind.u64 20)) t17 (Go.Value.int Go.IntKind.u64 20)) w15 fun t18 w16 =>
  Run Try.prog (binSem Go.BinOp.or 113 (Go.Operand.tmp 18) (Go.Operand.const (Go.Value.int Go.IntKind.u64 524288)) t18 (Go.Value.int Go.IntKind.u64 524288)) w16 fun t19 w17 =>
  Run Try.prog (binSem Go.BinOp.and 113 (Go.Operand.tmp 20) (Go.Operand.const (Go.Value.int Go.IntKind.u64 262143)) t15 (Go.Value.int Go.IntKind.u64 262143)) w17 fun t21 w18 =>
  Run Try.prog (binSem Go.BinOp.or 113 (Go.Operand.tmp 19) (Go.Operand.tmp 21) t19 t21) w18 fun t22 w19 =>
  R t22 w19)
theorem S50_eq (f_0 : Value) (w : World) (R : Value → World → Prop) : vcFn Try.prog [] Try.f50 [f_0] w R = S50 f_0 w R := by kernel_rfl
theorem D50 {f_0 : Value} {w : World} {R : Value → World → Prop} (h : S50 f_0 w R) : Does Try.prog 50 [f_0] w R :=
  does_of_vc [] mixed Try.func50 (by kernel_rfl) (by kernel_rfl) ((S50_eq f_0 w R).mpr h)

/-- (*busbar/frame.reader).take -/
def S51 (r_0 n_1 : Value) (w : World) (R : Value → World → Prop) : Prop :=
  ∀ w1, Ext w w1 →
  RunQ Try.prog (nilSem r_0) w1 fun t9 =>
  RunQ Try.prog (Instr.fieldAt 127 t9 0) w1 fun t10 =>
  RunQ Try.prog (Instr.loadAt 52 t10) w1 fun t11 =>
  RunQ Try.prog (nilSem r_0) w1 fun t13 =>
  RunQ Try.prog (Instr.fieldAt 127 t13 1) w1 fun t14 =>
  RunQ Try.prog (Instr.loadAt 3 t14) w1 fun t15 =>
  RunQ Try.prog (nilSem r_0) w1 fun t17 =>
  RunQ Try.prog (Instr.fieldAt 127 t17 1) w1 fun t18 =>
  RunQ Try.prog (Instr.loadAt 3 t18) w1 fun t19 =>
  RunQ Try.prog (binSem Go.BinOp.add 3 (Go.Operand.tmp 19) (Go.Operand.tmp 20) t19 n_1) w1 fun t21 =>
  RunQ Try.prog (Instr.sliceAt 52 t11 (some t15) (some t21) none) w1 fun t22 =>
  RunQ Try.prog (Builtin.len_ #[52] 3 #[t22]) w1 fun t23 =>
  JoinP 2 (fun (k1 : N2) =>
    LoopP 2 (fun (k2 : N2) => (fun (v_5 : Value) (t24 : Value) (w2 : World) => 
      Run Try.prog (binSem Go.BinOp.lss 3 (Go.Operand.tmp 24) (Go.Operand.tmp 23) t24 t23) w2 fun t25 w3 =>
      CondP t25 0 (fun (k3 : N0) =>
        k3 w3)
      (fun (k4 : N0) =>
        k1 v_5 t24 w3)
      (fun (w4 : World) => 
      JoinP 1 (fun (k5 : N1) =>
        Run Try.prog (Instr.indexAt 52 t22 t24) w4 fun t26 w5 =>
        Run Try.prog (Instr.loadAt 4 t26) w5 fun t27 w6 =>
        Run Try.prog (binSem Go.BinOp.shl 32 (Go.Operand.tmp 28) (Go.Operand.const (Go.Value.int Go.IntKind.u64 1)) v_5 (Go.Value.int Go.IntKind.u64 1)) w6 fun t29 w7 =>
        CondP t27 1 (fun (k6 : N1) =>
          Run Try.prog (binSem Go.BinOp.or 32 (Go.Operand.tmp 31) (Go.Operand.const (Go.Value.int Go.IntKind.u32 1)) t29 (Go.Value.int Go.IntKind.u32 1)) w7 fun t32 w8 =>
          k6 t32 w8)
        (fun (k7 : N1) =>
          k7 t29 w7)
        (fun (v_5 : Value) (w9 : World) => 
        k5 v_5 w9))
      (fun (v_5 : Value) (w10 : World) => 
      Run Try.prog (binSem Go.BinOp.add 3 (Go.Operand.tmp 24) (Go.Operand.const (Go.Value.int Go.IntKind.i64 1)) t24 (Go.Value.int Go.IntKind.i64 1)) w10 fun t33 w11 =>
      k2 v_5 t33 w11))))
    [(Go.Value.int Go.IntKind.u32 0), (Go.Value.int Go.IntKind.i64 0)] w1)
  (fun (v_5 : Value) (t24 : Value) (w12 : World) => 
  Run Try.prog (nilSem r_0) w12 fun t35 w13 =>
  Run Try.prog (Instr.fieldAt 127 t35 1) w13 fun t36 w14 =>
  Run Try.prog (Instr.loadAt 3 t36) w14 fun t37 w15 =>
  Run Try.prog (binSem Go.BinOp.add 3 (Go.Operand.tmp 37) (Go.Operand.tmp 38) t37 n_1) w15 fun t39 w16 =>
  Run Try.prog (nilSem r_0) w16 fun t40 w17 =>
  Run Try.prog (Instr.fieldAt 127 t40 1) w17 fun t41 w18 =>
  RunU Try.prog (Instr.storeAt 3 t41 t39) w18 fun w19 =>
  R v_5 w19)
theorem S51_eq (r_0 n_1 : Value) (w : World) (R : Value → World → Prop) : vcFn Try.prog [] Try.f51 [r_0, n_1] w R = S51 r_0 n_1 w R := by kernel_rfl
theorem D51 {r_0 n_1 : Value} {w : World} {R : Value → World → Prop} (h : S51 r_0 n_1 w R) : Does Try.prog 51 [r_0, n_1] w R :=
  does_of_vc [] mixed Try.func51 (by kernel_rfl) (by kernel_rfl) ((S51_eq r_0 n_1 w R).mpr h)

/-- busbar/stuff.Unstuff -/
def S52 (l_0 : Value) (w : World) (R : Value → World → Prop) : Prop :=
  Run Try.prog (Instr.alloc 144 true (.tuple #[])) w fun r_5 w1 =>
  Run Try.prog (Builtin.len_ #[52] 3 #[l_0]) w1 fun t11 w2 =>
  Run Try.prog (Builtin.len_ #[52] 3 #[l_0]) w2 fun t13 w3 =>
  Run Try.prog (Instr.sliceAt 52 l_0 none (some t11) (some t13)) w3 fun t14 w4 =>
  JoinP 4 (fun (k1 : N4) =>
    LoopP 4 (fun (k2 : N4) => (fun (out_4 : Value) (t2 : Value) (t3 : Value) (rest_6 : Value) (w5 : World) => 
      Run Try.prog (Builtin.len_ #[52] 3 #[rest_6]) w5 fun t16 w6 =>
      Run Try.prog (binSem Go.BinOp.gtr 3 (Go.Operand.tmp 16) (Go.Operand.const (Go.Value.int Go.IntKind.i64 0)) t16 (Go.Value.int Go.IntKind.i64 0)) w6 fun t17 w7 =>
      CondP t17 0 (fun (k3 : N0) =>
        k3 w7)
      (fun (k4 : N0) =>
        k1 out_4 t2 t3 rest_6 w7)
      (fun (w8 : World) => 
      JoinP 4 (fun (k5 : N4) =>
        Run Try.prog (Instr.indexAt 52 rest_6 (Go.Value.int Go.IntKind.i64 0)) w8 fun t19 w9 =>
        Run Try.prog (Instr.loadAt 4 t19) w9 fun t20 w10 =>
        Run Try.prog (Builtin.len_ #[52] 3 #[rest_6]) w10 fun t23 w11 =>
        Run Try.prog (Builtin.len_ #[52] 3 #[rest_6]) w11 fun t25 w12 =>
        Run Try.prog (Instr.sliceAt 52 rest_6 (some (Go.Value.int Go.IntKind.i64 1)) (some t23) (some t25)) w12 fun t26 w13 =>
        Run Try.prog (Instr.buildSlice 52 1 #[(0, t20)]) w13 fun t29 w14 =>
        Run Try.prog (Builtin.append_ #[52, 52] 52 #[out_4, t29]) w14 fun t30 w15 =>
        GoN Try.prog (callFunc 61 #[r_5, t20]) w15 fun t32 w16 =>
        Run Try.prog (Op.unary Go.UnOp.not t32) w16 fun t33 w17 =>
        CondP t33 0 (fun (k6 : N0) =>
          k5 t30 t2 t3 t26 w17)
        (fun (k7 : N0) =>
          k7 w17)
        (fun (w18 : World) => 
        Run Try.prog (Builtin.len_ #[52] 3 #[l_0]) w18 fun t35 w19 =>
        Run Try.prog (Builtin.len_ #[52] 3 #[t26]) w19 fun t37 w20 =>
        Run Try.prog (binSem Go.BinOp.sub 3 (Go.Operand.tmp 35) (Go.Operand.tmp 37) t35 t37) w20 fun t38 w21 =>
        Run Try.prog (Builtin.len_ #[52] 3 #[t26]) w21 fun t40 w22 =>
        Run Try.prog (binSem Go.BinOp.eql 3 (Go.Operand.tmp 40) (Go.Operand.const (Go.Value.int Go.IntKind.i64 0)) t40 (Go.Value.int Go.IntKind.i64 0)) w22 fun t41 w23 =>
        CondP t41 2 (fun (k8 : N2) =>
          Run Try.prog (Instr.build 147 #[(0, (Go.Value.int Go.IntKind.i64 2)), (2, t38)]) w23 fun t43 w24 =>
          Run Try.prog (Instr.makeInterface 147 t43) w24 fun t44 w25 =>
          R (.tuple #[(Go.Value.slice none 0 0), t44]) w25)
        (fun (k9 : N2) =>
          k9 t2 t3 w23)
        (fun (t2 : Value) (t3 : Value) (w26 : World) => 
        Run Try.prog (Instr.indexAt 52 t26 (Go.Value.int Go.IntKind.i64 0)) w26 fun t46 w27 =>
        Run Try.prog (Instr.loadAt 4 t46) w27 fun t47 w28 =>
        Run Try.prog (binSem Go.BinOp.eql 4 (Go.Operand.tmp 47) (Go.Operand.tmp 48) t47 t20) w28 fun t49 w29 =>
        CondP t49 2 (fun (k10 : N2) =>
          Run Try.prog (Instr.build 147 #[(0, (Go.Value.int Go.IntKind.i64 22)), (2, t38)]) w29 fun t51 w30 =>
          Run Try.prog (Instr.makeInterface 147 t51) w30 fun t52 w31 =>
          R (.tuple #[(Go.Value.slice none 0 0), t52]) w31)
        (fun (k11 : N2) =>
          k11 t2 t3 w29)
        (fun (t2 : Value) (t3 : Value) (w32 : World) => 
        Run Try.prog (Op.unary Go.UnOp.not t20) w32 fun t54 w33 =>
        Run Try.prog (Instr.build 144 #[(0, t54), (1, (Go.Value.int Go.IntKind.i64 1))]) w33 fun t55 w34 =>
        RunU Try.prog (Instr.storeAt 144 r_5 t55) w34 fun w35 =>
        Run Try.prog (Builtin.len_ #[52] 3 #[t26]) w35 fun t58 w36 =>
        Run Try.prog (Builtin.len_ #[52] 3 #[t26]) w36 fun t60 w37 =>
        Run Try.prog (Instr.sliceAt 52 t26 (some (Go.Value.int Go.IntKind.i64 1)) (some t58) (some t60)) w37 fun t61 w38 =>
        k5 t30 t2 t3 t61 w38))))
      (fun (out_4 : Value) (t2 : Value) (t3 : Value) (rest_6 : Value) (w39 : World) => 
      k2 out_4 t2 t3 rest_6 w39))))
    [(Go.Value.slice none 0 0), (Go.Value.slice none 0 0), Go.Value.nilIface, t14] w4)
  (fun (out_4 : Value) (t2 : Value) (t3 : Value) (rest_6 : Value) (w40 : World) => 
  R (.tuple #[out_4, Go.Value.nilIface]) w40)
theorem S52_eq (l_0 : Value) (w : World) (R : Value → World → Prop) : vcFn Try.prog [] Try.f52 [l_0] w R = S52 l_0 w R := by kernel_rfl
theorem D52 {l_0 : Value} {w : World} {R : Value → World → Prop} (h : S52 l_0 w R) : Does Try.prog 52 [l_0] w R :=
  does_of_vc [] mixed Try.func52 (by kernel_rfl) (by kernel_rfl) ((S52_eq l_0 w R).mpr h)

/-- (*busbar/frame.reader).id -/
def S53 (r_0 : Value) (w : World) (R : Value → World → Prop) : Prop :=
  GoN Try.prog (callFunc 62 #[r_0]) w fun t6 w1 =>
  Run Try.prog (binSem Go.BinOp.lss 3 (Go.Operand.tmp 6) (Go.Operand.const (Go.Value.int Go.IntKind.i64 14)) t6 (Go.Value.int Go.IntKind.i64 14)) w1 fun t7 w2 =>
  CondP t7 1 (fun (k1 : N1) =>
    Run Try.prog (Instr.makeInterface 70 (Go.Value.int Go.IntKind.i64 2)) w2 fun t8 w3 =>
    R t8 w3)
  (fun (k2 : N1) =>
    k2 Go.Value.nilIface w2)
  (fun (t2 : Value) (w4 : World) => 
  GoN Try.prog (callFunc 51 #[r_0, (Go.Value.int Go.IntKind.i64 1)]) w4 fun t10 w5 =>
  GoN Try.prog (callFunc 51 #[r_0, (Go.Value.int Go.IntKind.i64 11)]) w5 fun t13 w6 =>
  Run Try.prog (nilSem r_0) w6 fun t14 w7 =>
  Run Try.prog (Instr.fieldAt 127 t14 2) w7 fun t15 w8 =>
  Run Try.prog (Instr.fieldAt 35 t15 0) w8 fun t16 w9 =>
  RunU Try.prog (Instr.storeAt 32 t16 t13) w9 fun w10 =>
  GoN Try.prog (callFunc 51 #[r_0, (Go.Value.int Go.IntKind.i64 1)]) w10 fun t18 w11 =>
  GoN Try.prog (callFunc 51 #[r_0, (Go.Value.int Go.IntKind.i64 1)]) w11 fun t21 w12 =>
  Run Try.prog (binSem Go.BinOp.eql 32 (Go.Operand.tmp 21) (Go.Operand.const (Go.Value.int Go.IntKind.u32 1)) t21 (Go.Value.int Go.IntKind.u32 1)) w12 fun t22 w13 =>
  Run Try.prog (nilSem r_0) w13 fun t23 w14 =>
  Run Try.prog (Instr.fieldAt 127 t23 2) w14 fun t24 w15 =>
  Run Try.prog (Instr.fieldAt 35 t24 1) w15 fun t25 w16 =>
  RunU Try.prog (Instr.storeAt 4 t25 t22) w16 fun w17 =>
  Run Try.prog (binSem Go.BinOp.neq 32 (Go.Operand.tmp 26) (Go.Operand.const (Go.Value.int Go.IntKind.u32 0)) t10 (Go.Value.int Go.IntKind.u32 0)) w17 fun t27 w18 =>
  GuardP t27 false (fun (k3 : N1) => k3 t18 w18) w18 fun t29 w19 =>
  GuardP t27 false (fun (k4 : N1) => Run Try.prog (binSem Go.BinOp.eql 32 (Go.Operand.tmp 29) (Go.Operand.const (Go.Value.int Go.IntKind.u32 1)) t29 (Go.Value.int Go.IntKind.u32 1)) w19 k4) w19 fun t30 w20 =>
  GuardP t27 false (fun (k5 : N1) => k5 r_0 w20) w20 fun t31 w21 =>
  GuardP t27 false (fun (k6 : N1) => Run Try.prog (nilSem t31) w21 k6) w21 fun t32 w22 =>
  GuardP t27 false (fun (k7 : N1) => Run Try.prog (Instr.fieldAt 127 t32 2) w22 k7) w22 fun t33 w23 =>
  GuardP t27 false (fun (k8 : N1) => Run Try.prog (Instr.fieldAt 35 t33 1) w23 k8) w23 fun t34 w24 =>
  GuardP t27 false (fun (k9 : N1) => Run Try.prog (Instr.loadAt 4 t34) w24 k9) w24 fun t35 w25 =>
  GuardP t27 false (fun (k10 : N1) => Run Try.prog (binSem Go.BinOp.neq 4 (Go.Operand.tmp 30) (Go.Operand.tmp 35) t30 t35) w25 k10) w25 fun t36 w26 =>
  PickP t27 (Go.Value.bool true) t36 w26 fun t37 w27 =>
  CondP t37 1 (fun (k11 : N1) =>
    Run Try.prog (Instr.makeInterface 70 (Go.Value.int Go.IntKind.i64 4)) w27 fun t38 w28 =>
    R t38 w28)
  (fun (k12 : N1) =>
    k12 t2 w27)
  (fun (t2 : Value) (w29 : World) => 
  R Go.Value.nilIface w29))
theorem S53_eq (r_0 : Value) (w : World) (R : Value → World → Prop) : vcFn Try.prog [] Try.f53 [r_0] w R = S53 r_0 w R := by kernel_rfl
theorem D53 {r_0 : Value} {w : World} {R : Value → World → Prop} (h : S53 r_0 w R) : Does Try.prog 53 [r_0] w R :=
  does_of_vc [] mixed Try.func53 (by kernel_rfl) (by kernel_rfl) ((S53_eq r_0 w R).mpr h)

/-- (*busbar/frame.reader).rest -/
def S54 (r_0 : Value) (w : World) (R : Value → World → Prop) : Prop :=
  Run Try.prog (nilSem r_0) w fun t4 w1 =>
  Run Try.prog (Instr.fieldAt 127 t4 2) w1 fun t5 w2 =>
  Run Try.prog (Instr.fieldAt 35 t5 1) w2 fun t6 w3 =>
  Run Try.prog (Instr.loadAt 4 t6) w3 fun t7 w4 =>
  Run Try.prog (Op.unary Go.UnOp.not t7) w4 fun t8 w5 =>
  CondP t8 1 (fun (k1 : N1) =>
    GoN Try.prog (callFunc 62 #[r_0]) w5 fun t10 w6 =>
    Run Try.prog (binSem Go.BinOp.lss 3 (Go.Operand.tmp 10) (Go.Operand.const (Go.Value.int Go.IntKind.i64 5)) t10 (Go.Value.int Go.IntKind.i64 5)) w6 fun t11 w7 =>
    CondP t11 1 (fun (k2 : N1) =>
      Run Try.prog (Instr.makeInterface 70 (Go.Value.int Go.IntKind.i64 2)) w7 fun t12 w8 =>
      R t12 w8)
    (fun (k3 : N1) =>
      k3 Go.Value.nilIface w7)
    (fun (t2 : Value) (w9 : World) => 
    GoN Try.prog (callFunc 51 #[r_0, (Go.Value.int Go.IntKind.i64 1)]) w9 fun t14 w10 =>
    Run Try.prog (binSem Go.BinOp.neq 32 (Go.Operand.tmp 14) (Go.Operand.const (Go.Value.int Go.IntKind.u32 0)) t14 (Go.Value.int Go.IntKind.u32 0)) w10 fun t15 w11 =>
    CondP t15 1 (fun (k4 : N1) =>
      Run Try.prog (Instr.makeInterface 70 (Go.Value.int Go.IntKind.i64 4)) w11 fun t16 w12 =>
      R t16 w12)
    (fun (k5 : N1) =>
      k5 t2 w11)
    (fun (t2 : Value) (w13 : World) => 
    R Go.Value.nilIface w13)))
  (fun (k6 : N1) =>
    k6 Go.Value.nilIface w5)
  (fun (t2 : Value) (w14 : World) => 
  GoN Try.prog (callFunc 62 #[r_0]) w14 fun t18 w15 =>
  Run Try.prog (binSem Go.BinOp.lss 3 (Go.Operand.tmp 18) (Go.Operand.const (Go.Value.int Go.IntKind.i64 25)) t18 (Go.Value.int Go.IntKind.i64 25)) w15 fun t19 w16 =>
  CondP t19 1 (fun (k7 : N1) =>
    Run Try.prog (Instr.makeInterface 70 (Go.Value.int Go.IntKind.i64 2)) w16 fun t20 w17 =>
    R t20 w17)
  (fun (k8 : N1) =>
    k8 t2 w16)
  (fun (t2 : Value) (w18 : World) => 
  ∀ w19, Ext w18 w19 →
  DrawE (fun (E : World → Prop) =>
  RunG Try.prog (nilSem r_0) E fun t23 =>
  RunG Try.prog (Instr.fieldAt 127 t23 2) E fun t24 =>
  RunG Try.prog (Instr.fieldAt 35 t24 0) E fun t25 =>
  RunG Try.prog (Instr.loadAt 32 t25) E fun t26 =>
  RunG Try.prog (binSem Go.BinOp.shl 32 (Go.Operand.tmp 26) (Go.Operand.const (Go.Value.int Go.IntKind.u64 18)) t26 (Go.Value.int Go.IntKind.u64 18)) E fun t27 =>
  GoN Try.prog (callFunc 51 #[r_0, (Go.Value.int Go.IntKind.i64 18)]) w19 fun t29 w20 => E w20 ∧
  RunG Try.prog (binSem Go.BinOp.or 32 (Go.Operand.tmp 27) (Go.Operand.tmp 29) t27 t29) E fun t30 =>
  RunG Try.prog (nilSem r_0) E fun t31 =>
  RunG Try.prog (Instr.fieldAt 127 t31 2) E fun t32 =>
  RunG Try.prog (Instr.fieldAt 35 t32 0) E fun t33 =>
  RunU Try.prog (Instr.storeAt 32 t33 t30) w20 fun w21 =>
  GoN Try.prog (callFunc 51 #[r_0, (Go.Value.int Go.IntKind.i64 3)]) w21 fun t35 w22 =>
  Run Try.prog (binSem Go.BinOp.neq 32 (Go.Operand.tmp 35) (Go.Operand.const (Go.Value.int Go.IntKind.u32 0)) t35 (Go.Value.int Go.IntKind.u32 0)) w22 fun t36 w23 =>
  CondP t36 1 (fun (k9 : N1) =>
    Run Try.prog (Instr.makeInterface 70 (Go.Value.int Go.IntKind.i64 4)) w23 fun t37 w24 =>
    R t37 w24)
  (fun (k10 : N1) =>
    k10 t2 w23)
  (fun (t2 : Value) (w25 : World) => 
  R Go.Value.nilIface w25)) w19))
theorem S54_eq (r_0 : Value) (w : World) (R : Value → World → Prop) : vcFn Try.prog [9] Try.f54 [r_0] w R = S54 r_0 w R := by kernel_rfl
theorem D54 {r_0 : Value} {w : World} {R : Value → World → Prop} (h : S54 r_0 w R) : Does Try.prog 54 [r_0] w R :=
  does_of_vc [9] mixed Try.func54 (by kernel_rfl) (by kernel_rfl) ((S54_eq r_0 w R).mpr h)

/-- (*busbar/frame.reader).length -/
def S55 (r_0 : Value) (w : World) (R : Value → World → Prop) : Prop :=
  GoN Try.prog (callFunc 51 #[r_0, (Go.Value.int Go.IntKind.i64 4)]) w fun t6 w1 =>
  Run Try.prog (convert 32 3 t6) w1 fun t7 w2 =>
  Run Try.prog (nilSem r_0) w2 fun t8 w3 =>
  Run Try.prog (Instr.fieldAt 127 t8 3) w3 fun t9 w4 =>
  RunU Try.prog (Instr.storeAt 3 t9 t7) w4 fun w5 =>
  Run Try.prog (nilSem r_0) w5 fun t11 w6 =>
  Run Try.prog (Instr.fieldAt 127 t11 3) w6 fun t12 w7 =>
  Run Try.prog (Instr.loadAt 3 t12) w7 fun t13 w8 =>
  Run Try.prog (binSem Go.BinOp.gtr 3 (Go.Operand.tmp 13) (Go.Operand.const (Go.Value.int Go.IntKind.i64 8)) t13 (Go.Value.int Go.IntKind.i64 8)) w8 fun t14 w9 =>
  CondP t14 1 (fun (k1 : N1) =>
    Run Try.prog (Instr.makeInterface 70 (Go.Value.int Go.IntKind.i64 15)) w9 fun t15 w10 =>
    R t15 w10)
  (fun (k2 : N1) =>
    k2 Go.Value.nilIface w9)
  (fun (t2 : Value) (w11 : World) => 
  Run Try.prog (nilSem r_0) w11 fun t17 w12 =>
  Run Try.prog (Instr.fieldAt 127 t17 3) w12 fun t18 w13 =>
  Run Try.prog (Instr.loadAt 3 t18) w13 fun t19 w14 =>
  Run Try.prog (binSem Go.BinOp.mul 3 (Go.Operand.const (Go.Value.int Go.IntKind.i64 8)) (Go.Operand.tmp 19) (Go.Value.int Go.IntKind.i64 8) t19) w14 fun t20 w15 =>
  Run Try.prog (binSem Go.BinOp.add 3 (Go.Operand.tmp 20) (Go.Operand.const (Go.Value.int Go.IntKind.i64 15)) t20 (Go.Value.int Go.IntKind.i64 15)) w15 fun t21 w16 =>
  JoinP 1 (fun (k3 : N1) =>
    GoN Try.prog (callFunc 62 #[r_0]) w16 fun t24 w17 =>
    Run Try.prog (binSem Go.BinOp.lss 3 (Go.Operand.tmp 24) (Go.Operand.tmp 25) t24 t21) w17 fun t26 w18 =>
    CondP t26 1 (fun (k4 : N1) =>
      Run Try.prog (Instr.makeInterface 70 (Go.Value.int Go.IntKind.i64 2)) w18 fun t27 w19 =>
      R t27 w19)
    (fun (k5 : N1) =>
      GoN Try.prog (callFunc 62 #[r_0]) w18 fun t30 w20 =>
      Run Try.prog (binSem Go.BinOp.gtr 3 (Go.Operand.tmp 30) (Go.Operand.tmp 31) t30 t21) w20 fun t32 w21 =>
      CondP t32 1 (fun (k6 : N1) =>
        Run Try.prog (Instr.makeInterface 70 (Go.Value.int Go.IntKind.i64 3)) w21 fun t33 w22 =>
        R t33 w22)
      (fun (k7 : N1) =>
        k7 t2 w21)
      (fun (t2 : Value) (w23 : World) => 
      k5 t2 w23))
    (fun (t2 : Value) (w24 : World) => 
    k3 t2 w24))
  (fun (t2 : Value) (w25 : World) => 
  R Go.Value.nilIface w25))
theorem S55_eq (r_0 : Value) (w : World) (R : Value → World → Prop) : vcFn Try.prog [] Try.f55 [r_0] w R = S55 r_0 w R := by kernel_rfl
theorem D55 {r_0 : Value} {w : World} {R : Value → World → Prop} (h : S55 r_0 w R) : Does Try.prog 55 [r_0] w R :=
  does_of_vc [] mixed Try.func55 (by kernel_rfl) (by kernel_rfl) ((S55_eq r_0 w R).mpr h)

/-- (*busbar/frame.reader).data -/
def S56 (r_0 : Value) (w : World) (R : Value → World → Prop) : Prop :=
  Run Try.prog (nilSem r_0) w fun t4 w1 =>
  Run Try.prog (Instr.fieldAt 127 t4 3) w1 fun t5 w2 =>
  Run Try.prog (Instr.loadAt 3 t5) w2 fun t6 w3 =>
  JoinP 1 (fun (k1 : N1) =>
    LoopP 1 (fun (k2 : N1) => (fun (t7 : Value) (w4 : World) => 
      Run Try.prog (binSem Go.BinOp.lss 3 (Go.Operand.tmp 7) (Go.Operand.tmp 6) t7 t6) w4 fun t8 w5 =>
      CondP t8 0 (fun (k3 : N0) =>
        k3 w5)
      (fun (k4 : N0) =>
        k1 t7 w5)
      (fun (w6 : World) => 
      JoinP 0 (fun (k5 : N0) =>
        ∀ w7, Ext w6 w7 →
        DrawE (fun (E : World → Prop) =>
        RunG Try.prog (nilSem r_0) E fun t11 =>
        RunG Try.prog (Instr.fieldAt 127 t11 2) E fun t12 =>
        RunG Try.prog (Instr.fieldAt 35 t12 2) E fun t13 =>
        RunG Try.prog (Instr.loadAt 33 t13) E fun t14 =>
        GoN Try.prog (callFunc 51 #[r_0, (Go.Value.int Go.IntKind.i64 8)]) w7 fun t16 w8 => E w8 ∧
        RunG Try.prog (convert 32 5 t16) E fun t17 =>
        Run Try.prog (Instr.buildSlice 33 1 #[(0, t17)]) w8 fun t18 w9 => E w9 ∧
        Run Try.prog (Builtin.append_ #[33, 33] 33 #[t14, t18]) w9 fun t19 w10 => E w10 ∧
        Run Try.prog (nilSem r_0) w10 fun t20 w11 =>
        Run Try.prog (Instr.fieldAt 127 t20 2) w11 fun t21 w12 =>
        Run Try.prog (Instr.fieldAt 35 t21 2) w12 fun t22 w13 =>
        RunU Try.prog (Instr.storeAt 33 t22 t19) w13 fun w14 =>
        k5 w14) w7)
      (fun (w15 : World) => 
      Run Try.prog (binSem Go.BinOp.add 3 (Go.Operand.tmp 7) (Go.Operand.const (Go.Value.int Go.IntKind.i64 1)) t7 (Go.Value.int Go.IntKind.i64 1)) w15 fun t23 w16 =>
      k2 t23 w16))))
    [(Go.Value.int Go.IntKind.i64 0)] w3)
  (fun (t7 : Value) (w17 : World) => 
  R Go.Value.nilIface w17)
theorem S56_eq (r_0 : Value) (w : World) (R : Value → World → Prop) : vcFn Try.prog [] Try.f56 [r_0] w R = S56 r_0 w R := by kernel_rfl
theorem D56 {r_0 : Value} {w : World} {R : Value → World → Prop} (h : S56 r_0 w R) : Does Try.prog 56 [r_0] w R :=
  does_of_vc [] mixed Try.func56 (by kernel_rfl) (by kernel_rfl) ((S56_eq r_0 w R).mpr h)

/-- (*busbar/frame.reader).sum -/
def S57 (r_0 : Value) (w : World) (R : Value → World → Prop) : Prop :=
  ∀ w1, Ext w w1 →
  RunQ Try.prog (nilSem r_0) w1 fun t5 =>
  RunQ Try.prog (Instr.fieldAt 127 t5 0) w1 fun t6 =>
  RunQ Try.prog (Instr.loadAt 52 t6) w1 fun t7 =>
  RunQ Try.prog (nilSem r_0) w1 fun t9 =>
  RunQ Try.prog (Instr.fieldAt 127 t9 1) w1 fun t10 =>
  RunQ Try.prog (Instr.loadAt 3 t10) w1 fun t11 =>
  RunQ Try.prog (Instr.sliceAt 52 t7 none (some t11) none) w1 fun t12 =>
  GoN Try.prog (callFunc 48 #[t12]) w1 fun t13 w2 => Ext w1 w2 ∧
  GoN Try.prog (callFunc 51 #[r_0, (Go.Value.int Go.IntKind.i64 15)]) w2 fun t15 w3 =>
  Run Try.prog (convert 111 32 t13) w3 fun t17 w4 =>
  Run Try.prog (binSem Go.BinOp.neq 32 (Go.Operand.tmp 15) (Go.Operand.tmp 17) t15 t17) w4 fun t18 w5 =>
  CondP t18 1 (fun (k1 : N1) =>
    Run Try.prog (Instr.makeInterface 70 (Go.Value.int Go.IntKind.i64 23)) w5 fun t19 w6 =>
    R t19 w6)
  (fun (k2 : N1) =>
    k2 Go.Value.nilIface w5)
  (fun (t2 : Value) (w7 : World) => 
  R Go.Value.nilIface w7)
theorem S57_eq (r_0 : Value) (w : World) (R : Value → World → Prop) : vcFn Try.prog [] Try.f57 [r_0] w R = S57 r_0 w R := by kernel_rfl
theorem D57 {r_0 : Value} {w : World} {R : Value → World → Prop} (h : S57 r_0 w R) : Does Try.prog 57 [r_0] w R :=
  does_of_vc [] mixed Try.func57 (by kernel_rfl) (by kernel_rfl) ((S57_eq r_0 w R).mpr h)

/-- busbar/crc.New -/
def S58 (w : World) (R : Value → World → Prop) : Prop :=
  Run Try.prog (Instr.build 141 #[]) w fun t1 w1 =>
  Run Try.prog (Instr.box 141 t1) w1 fun t2 w2 =>
  R t2 w2
theorem S58_eq (w : World) (R : Value → World → Prop) : vcFn Try.prog [] Try.f58 [] w R = S58 w R := by kernel_rfl
theorem D58 {w : World} {R : Value → World → Prop} (h : S58 w R) : Does Try.prog 58 [] w R :=
  does_of_vc [] mixed Try.func58 (by kernel_rfl) (by kernel_rfl) ((S58_eq w R).mpr h)

/-- (*busbar/crc.register).Add -/
def S59 (r_0 bit_1 : Value) (w : World) (R : Value → World → Prop) : Prop :=
  Run Try.prog (nilSem r_0) w fun t5 w1 =>
  Run Try.prog (Instr.fieldAt 139 t5 0) w1 fun t6 w2 =>
  Run Try.prog (Instr.loadAt 111 t6) w2 fun t7 w3 =>
  Run Try.prog (binSem Go.BinOp.and 111 (Go.Operand.tmp 7) (Go.Operand.const (Go.Value.int Go.IntKind.u16 16384)) t7 (Go.Value.int Go.IntKind.u16 16384)) w3 fun t8 w4 =>
  Run Try.prog (binSem Go.BinOp.neq 111 (Go.Operand.tmp 8) (Go.Operand.const (Go.Value.int Go.IntKind.u16 0)) t8 (Go.Value.int Go.IntKind.u16 0)) w4 fun t9 w5 =>
  Run Try.prog (binSem Go.BinOp.neq 4 (Go.Operand.tmp 9) (Go.Operand.tmp 10) t9 bit_1) w5 fun t11 w6 =>
  CondP t11 0 (fun (k1 : N0) =>
    Run Try.prog (nilSem r_0) w6 fun t14 w7 =>
    Run Try.prog (Instr.fieldAt 139 t14 0) w7 fun t15 w8 =>
    Run Try.prog (Instr.loadAt 111 t15) w8 fun t16 w9 =>
    Run Try.prog (binSem Go.BinOp.shl 111 (Go.Operand.tmp 16) (Go.Operand.const (Go.Value.int Go.IntKind.u64 1)) t16 (Go.Value.int Go.IntKind.u64 1)) w9 fun t17 w10 =>
    Run Try.prog (binSem Go.BinOp.and 111 (Go.Operand.tmp 17) (Go.Operand.const (Go.Value.int Go.IntKind.u16 32767)) t17 (Go.Value.int Go.IntKind.u16 32767)) w10 fun t18 w11 =>
    Run Try.prog (binSem Go.BinOp.xor 111 (Go.Operand.tmp 18) (Go.Operand.const (Go.Value.int Go.IntKind.u16 17817)) t18 (Go.Value.int Go.IntKind.u16 17817)) w11 fun t19 w12 =>
    Run Try.prog (nilSem r_0) w12 fun t20 w13 =>
    Run Try.prog (Instr.fieldAt 139 t20 0) w13 fun t21 w14 =>
    RunU Try.prog (Instr.storeAt 111 t21 t19) w14 fun w15 =>
    R (.tuple #[]) w15)
  (fun (k2 : N0) =>
    k2 w6)
  (fun (w16 : World) => 
  Run Try.prog (nilSem r_0) w16 fun t24 w17 =>
  Run Try.prog (Instr.fieldAt 139 t24 0) w17 fun t25 w18 =>
  Run Try.prog (Instr.loadAt 111 t25) w18 fun t26 w19 =>
  Run Try.prog (binSem Go.BinOp.shl 111 (Go.Operand.tmp 26) (Go.Operand.const (Go.Value.int Go.IntKind.u64 1)) t26 (Go.Value.int Go.IntKind.u64 1)) w19 fun t27 w20 =>
  Run Try.prog (binSem Go.BinOp.and 111 (Go.Operand.tmp 27) (Go.Operand.const (Go.Value.int Go.IntKind.u16 32767)) t27 (Go.Value.int Go.IntKind.u16 32767)) w20 fun t28 w21 =>
  Run Try.prog (nilSem r_0) w21 fun t29 w22 =>
  Run Try.prog (Instr.fieldAt 139 t29 0) w22 fun t30 w23 =>
  RunU Try.prog (Instr.storeAt 111 t30 t28) w23 fun w24 =>
  R (.tuple #[]) w24)
theorem S59_eq (r_0 bit_1 : Value) (w : World) (R : Value → World → Prop) : vcFn Try.prog [] Try.f59 [r_0, bit_1] w R = S59 r_0 bit_1 w R := by kernel_rfl
theorem D59 {r_0 bit_1 : Value} {w : World} {R : Value → World → Prop} (h : S59 r_0 bit_1 w R) : Does Try.prog 59 [r_0, bit_1] w R :=
  does_of_vc [] mixed Try.func59 (by kernel_rfl) (by kernel_rfl) ((S59_eq r_0 bit_1 w R).mpr h)

/-- (*busbar/crc.register).Sum -/
def S60 (r_0 : Value) (w : World) (R : Value → World → Prop) : Prop :=
  Run Try.prog (nilSem r_0) w fun t4 w1 =>
  Run Try.prog (Instr.fieldAt 139 t4 0) w1 fun t5 w2 =>
  Run Try.prog (Instr.loadAt 111 t5) w2 fun t6 w3 =>
  R t6 w3
theorem S60_eq (r_0 : Value) (w : World) (R : Value → World → Prop) : vcFn Try.prog [] Try.f60 [r_0] w R = S60 r_0 w R := by kernel_rfl
theorem D60 {r_0 : Value} {w : World} {R : Value → World → Prop} (h : S60 r_0 w R) : Does Try.prog 60 [r_0] w R :=
  does_of_vc [] mixed Try.func60 (by kernel_rfl) (by kernel_rfl) ((S60_eq r_0 w R).mpr h)

/-- (*busbar/stuff.run).see -/
def S61 (r_0 bit_1 : Value) (w : World) (R : Value → World → Prop) : Prop :=
  Run Try.prog (nilSem r_0) w fun t6 w1 =>
  Run Try.prog (Instr.fieldAt 144 t6 1) w1 fun t7 w2 =>
  Run Try.prog (Instr.loadAt 3 t7) w2 fun t8 w3 =>
  Run Try.prog (binSem Go.BinOp.gtr 3 (Go.Operand.tmp 8) (Go.Operand.const (Go.Value.int Go.IntKind.i64 0)) t8 (Go.Value.int Go.IntKind.i64 0)) w3 fun t9 w4 =>
  GuardP t9 true (fun (k1 : N1) => k1 r_0 w4) w4 fun t11 w5 =>
  GuardP t9 true (fun (k2 : N1) => Run Try.prog (nilSem t11) w5 k2) w5 fun t12 w6 =>
  GuardP t9 true (fun (k3 : N1) => Run Try.prog (Instr.fieldAt 144 t12 0) w6 k3) w6 fun t13 w7 =>
  GuardP t9 true (fun (k4 : N1) => Run Try.prog (Instr.loadAt 4 t13) w7 k4) w7 fun t14 w8 =>
  GuardP t9 true (fun (k5 : N1) => k5 bit_1 w8) w8 fun t15 w9 =>
  GuardP t9 true (fun (k6 : N1) => Run Try.prog (binSem Go.BinOp.eql 4 (Go.Operand.tmp 14) (Go.Operand.tmp 15) t14 t15) w9 k6) w9 fun t16 w10 =>
  PickP t9 t16 (Go.Value.bool false) w10 fun t17 w11 =>
  CondP t17 0 (fun (k7 : N0) =>
    Run Try.prog (nilSem r_0) w11 fun t19 w12 =>
    Run Try.prog (Instr.fieldAt 144 t19 1) w12 fun t20 w13 =>
    Run Try.prog (Instr.loadAt 3 t20) w13 fun t21 w14 =>
    Run Try.prog (binSem Go.BinOp.add 3 (Go.Operand.tmp 21) (Go.Operand.const (Go.Value.int Go.IntKind.i64 1)) t21 (Go.Value.int Go.IntKind.i64 1)) w14 fun t22 w15 =>
    Run Try.prog (nilSem r_0) w15 fun t23 w16 =>
    Run Try.prog (Instr.fieldAt 144 t23 1) w16 fun t24 w17 =>
    RunU Try.prog (Instr.storeAt 3 t24 t22) w17 fun w18 =>
    k7 w18)
  (fun (k8 : N0) =>
    Run Try.prog (nilSem r_0) w11 fun t28 w19 =>
    Run Try.prog (Instr.fieldAt 144 t28 0) w19 fun t29 w20 =>
    RunU Try.prog (Instr.storeAt 4 t29 bit_1) w20 fun w21 =>
    Run Try.prog (nilSem r_0) w21 fun t30 w22 =>
    Run Try.prog (Instr.fieldAt 144 t30 1) w22 fun t31 w23 =>
    RunU Try.prog (Instr.storeAt 3 t31 (Go.Value.int Go.IntKind.i64 1)) w23 fun w24 =>
    k8 w24)
  (fun (w25 : World) => 
  Run Try.prog (nilSem r_0) w25 fun t33 w26 =>
  Run Try.prog (Instr.fieldAt 144 t33 1) w26 fun t34 w27 =>
  Run Try.prog (Instr.loadAt 3 t34) w27 fun t35 w28 =>
  Run Try.prog (binSem Go.BinOp.eql 3 (Go.Operand.tmp 35) (Go.Operand.const (Go.Value.int Go.IntKind.i64 5)) t35 (Go.Value.int Go.IntKind.i64 5)) w28 fun t36 w29 =>
  R t36 w29)
theorem S61_eq (r_0 bit_1 : Value) (w : World) (R : Value → World → Prop) : vcFn Try.prog [] Try.f61 [r_0, bit_1] w R = S61 r_0 bit_1 w R := by kernel_rfl
theorem D61 {r_0 bit_1 : Value} {w : World} {R : Value → World → Prop} (h : S61 r_0 bit_1 w R) : Does Try.prog 61 [r_0, bit_1] w R :=
  does_of_vc [] mixed Try.func61 (by kernel_rfl) (by kernel_rfl) ((S61_eq r_0 bit_1 w R).mpr h)

/-- (*busbar/frame.reader).left -/
def S62 (r_0 : Value) (w : World) (R : Value → World → Prop) : Prop :=
  ∀ w1, Ext w w1 →
  RunQ Try.prog (nilSem r_0) w1 fun t4 =>
  RunQ Try.prog (Instr.fieldAt 127 t4 0) w1 fun t5 =>
  RunQ Try.prog (Instr.loadAt 52 t5) w1 fun t6 =>
  RunQ Try.prog (Builtin.len_ #[52] 3 #[t6]) w1 fun t7 =>
  RunQ Try.prog (nilSem r_0) w1 fun t9 =>
  RunQ Try.prog (Instr.fieldAt 127 t9 1) w1 fun t10 =>
  RunQ Try.prog (Instr.loadAt 3 t10) w1 fun t11 =>
  RunQ Try.prog (binSem Go.BinOp.sub 3 (Go.Operand.tmp 7) (Go.Operand.tmp 11) t7 t11) w1 fun t12 =>
  R t12 w1
theorem S62_eq (r_0 : Value) (w : World) (R : Value → World → Prop) : vcFn Try.prog [] Try.f62 [r_0] w R = S62 r_0 w R := by kernel_rfl
theorem D62 {r_0 : Value} {w : World} {R : Value → World → Prop} (h : S62 r_0 w R) : Does Try.prog 62 [r_0] w R :=
  does_of_vc [] mixed Try.func62 (by kernel_rfl) (by kernel_rfl) ((S62_eq r_0 w R).mpr h)

/-- (*busbar/bus.station).hear -/
def S79 (s_0 f_1 err_2 : Value) (w : World) (R : Value → World → Prop) : Prop :=
  Run Try.prog (Instr.box 35 f_1) w fun f_4 w1 =>
  JoinP 0 (fun (k1 : N0) =>
    Run Try.prog (binSem Go.BinOp.neq 27 (Go.Operand.tmp 16) (Go.Operand.const Go.Value.nilIface) err_2 Go.Value.nilIface) w1 fun t17 w2 =>
    CondP t17 0 (fun (k2 : N0) =>
      Run Try.prog (nilSem s_0) w2 fun t19 w3 =>
      Run Try.prog (Instr.fieldAt 81 t19 3) w3 fun t20 w4 =>
      Run Try.prog (Instr.fieldAt 64 t20 3) w4 fun t21 w5 =>
      Run Try.prog (Instr.loadAt 3 t21) w5 fun t22 w6 =>
      Run Try.prog (binSem Go.BinOp.add 3 (Go.Operand.tmp 22) (Go.Operand.const (Go.Value.int Go.IntKind.i64 1)) t22 (Go.Value.int Go.IntKind.i64 1)) w6 fun t23 w7 =>
      Run Try.prog (nilSem s_0) w7 fun t24 w8 =>
      Run Try.prog (Instr.fieldAt 81 t24 3) w8 fun t25 w9 =>
      Run Try.prog (Instr.fieldAt 64 t25 3) w9 fun t26 w10 =>
      RunU Try.prog (Instr.storeAt 3 t26 t23) w10 fun w11 =>
      k2 w11)
    (fun (k3 : N0) =>
      ∀ w12, Ext w2 w12 →
      RunQ Try.prog (nilSem s_0) w12 fun t29 =>
      RunQ Try.prog (Instr.fieldAt 81 t29 2) w12 fun t30 =>
      RunQ Try.prog (Instr.loadAt 57 t30) w12 fun t31 =>
      RunQ Try.prog (Instr.loadAt 35 f_4) w12 fun t32 =>
      GoN Try.prog (callFunc 19 #[t31, t32]) w12 fun t33 w13 => Ext w12 w13 ∧
      RunQ Try.prog (Op.unary Go.UnOp.not t33) w12 fun t34 =>
      CondP t34 0 (fun (k4 : N0) =>
        Run Try.prog (nilSem s_0) w13 fun t36 w14 =>
        Run Try.prog (Instr.fieldAt 81 t36 3) w14 fun t37 w15 =>
        Run Try.prog (Instr.fieldAt 64 t37 2) w15 fun t38 w16 =>
        Run Try.prog (Instr.loadAt 3 t38) w16 fun t39 w17 =>
        Run Try.prog (binSem Go.BinOp.add 3 (Go.Operand.tmp 39) (Go.Operand.const (Go.Value.int Go.IntKind.i64 1)) t39 (Go.Value.int Go.IntKind.i64 1)) w17 fun t40 w18 =>
        Run Try.prog (nilSem s_0) w18 fun t41 w19 =>
        Run Try.prog (Instr.fieldAt 81 t41 3) w19 fun t42 w20 =>
        Run Try.prog (Instr.fieldAt 64 t42 2) w20 fun t43 w21 =>
        RunU Try.prog (Instr.storeAt 3 t43 t40) w21 fun w22 =>
        k4 w22)
      (fun (k5 : N0) =>
        ∀ w23, Ext w13 w23 →
        DrawE (fun (E : World → Prop) =>
        RunG Try.prog (nilSem s_0) E fun t46 =>
        RunG Try.prog (Instr.fieldAt 81 t46 1) E fun t47 =>
        RunG Try.prog (Instr.loadAt 75 t47) E fun t48 =>
        RunG Try.prog (Instr.loadAt 35 f_4) E fun t49 =>
        GoN Try.prog (callFunc 29 #[t49]) w23 fun t50 w24 => E w24 ∧
        GoN Try.prog (callFunc 28 #[t48, t50]) w24 fun t51 w25 => E w25 ∧
        RunG Try.prog (binSem Go.BinOp.neq 27 (Go.Operand.tmp 51) (Go.Operand.const Go.Value.nilIface) t51 Go.Value.nilIface) E fun t52 =>
        CondP t52 0 (fun (k6 : N0) =>
          Run Try.prog (nilSem s_0) w25 fun t54 w26 =>
          Run Try.prog (Instr.fieldAt 81 t54 3) w26 fun t55 w27 =>
          Run Try.prog (Instr.fieldAt 64 t55 4) w27 fun t56 w28 =>
          Run Try.prog (Instr.loadAt 3 t56) w28 fun t57 w29 =>
          Run Try.prog (binSem Go.BinOp.add 3 (Go.Operand.tmp 57) (Go.Operand.const (Go.Value.int Go.IntKind.i64 1)) t57 (Go.Value.int Go.IntKind.i64 1)) w29 fun t58 w30 =>
          Run Try.prog (nilSem s_0) w30 fun t59 w31 =>
          Run Try.prog (Instr.fieldAt 81 t59 3) w31 fun t60 w32 =>
          Run Try.prog (Instr.fieldAt 64 t60 4) w32 fun t61 w33 =>
          RunU Try.prog (Instr.storeAt 3 t61 t58) w33 fun w34 =>
          k6 w34)
        (fun (k7 : N0) =>
          Run Try.prog (nilSem s_0) w25 fun t7 w35 =>
          Run Try.prog (Instr.fieldAt 81 t7 3) w35 fun t8 w36 =>
          Run Try.prog (Instr.fieldAt 64 t8 1) w36 fun t9 w37 =>
          Run Try.prog (Instr.loadAt 3 t9) w37 fun t10 w38 =>
          Run Try.prog (binSem Go.BinOp.add 3 (Go.Operand.tmp 10) (Go.Operand.const (Go.Value.int Go.IntKind.i64 1)) t10 (Go.Value.int Go.IntKind.i64 1)) w38 fun t11 w39 =>
          Run Try.prog (nilSem s_0) w39 fun t12 w40 =>
          Run Try.prog (Instr.fieldAt 81 t12 3) w40 fun t13 w41 =>
          Run Try.prog (Instr.fieldAt 64 t13 1) w41 fun t14 w42 =>
          RunU Try.prog (Instr.storeAt 3 t14 t11) w42 fun w43 =>
          k7 w43)
        (fun (w44 : World) => 
        k5 w44)) w23)
      (fun (w45 : World) => 
      k3 w45))
    (fun (w46 : World) => 
    k1 w46))
  (fun (w47 : World) => 
  R (.tuple #[]) w47)
theorem S79_eq (s_0 f_1 err_2 : Value) (w : World) (R : Value → World → Prop) : vcFn Try.prog [6] Try.f79 [s_0, f_1, err_2] w R = S79 s_0 f_1 err_2 w R := by kernel_rfl
theorem D79 {s_0 f_1 err_2 : Value} {w : World} {R : Value → World → Prop} (h : S79 s_0 f_1 err_2 w R) : Does Try.prog 79 [s_0, f_1, err_2] w R :=
  does_of_vc [6] mixed Try.func79 (by kernel_rfl) (by kernel_rfl) ((S79_eq s_0 f_1 err_2 w R).mpr h)

/-- (busbar/api.Fault).Unwrap -/
def S93 (f_0 : Value) (w : World) (R : Value → World → Prop) : Prop :=
  Run Try.prog (Instr.box 147 f_0) w fun f_1 w1 =>
  Run Try.prog (Instr.fieldAt 147 f_1 0) w1 fun t3 w2 =>
  Run Try.prog (Instr.loadAt 70 t3) w2 fun t4 w3 =>
  Run Try.prog (Instr.makeInterface 70 t4) w3 fun t5 w4 =>
  R t5 w4
theorem S93_eq (f_0 : Value) (w : World) (R : Value → World → Prop) : vcFn Try.prog [] Try.f93 [f_0] w R = S93 f_0 w R := by kernel_rfl
theorem D93 {f_0 : Value} {w : World} {R : Value → World → Prop} (h : S93 f_0 w R) : Does Try.prog 93 [f_0] w R :=
  does_of_vc [] mixed Try.func93 (by kernel_rfl) (by kernel_rfl) ((S93_eq f_0 w R).mpr h)

end Go.Proofs.Ytfdjkdiebabimaa.Sh
