/- The conditions of functions, printed by a program off the loaded code and held against it by the kernel. Conditions: none. -/
import Derived.Test.YtmgleeoecdodjaaV5
import Derived.Test.YtmgleeoecdodjaaProg
set_option linter.unusedVariables false
set_option maxRecDepth 100000
namespace Go.Proofs.Ytmgleeoecdodjaa.Sh
open Go Go.V
theorem mixed : Try.prog.follows .mixedOrders = true := by kernel_rfl
/-- busbar/busbarlaw05.NodeLists -/
def S3 (d_0 : Value) (w : World) (R : Value → World → Prop) : Prop :=
  Run Try.prog (Instr.box 32 d_0) w fun d_1 w1 =>
  Run Try.prog (Instr.loadAt 32 d_1) w1 fun t7 w2 =>
  GoN Try.prog (callFunc 5 #[t7]) w2 fun t8 w3 =>
  Run Try.prog (Instr.alloc 32 true (.tuple #[])) w3 fun x_3 w4 =>
  RunU Try.prog (Instr.storeAt 32 x_3 t8) w4 fun w5 =>
  Run Try.prog (Instr.loadAt 32 x_3) w5 fun t9 w6 =>
  GoN Try.prog (callFunc 6 #[t9]) w6 fun t10 w7 =>
  Run Try.prog (Instr.loadAt 32 x_3) w7 fun t11 w8 =>
  GoN Try.prog (callFunc 6 #[t11]) w8 fun t12 w9 =>
  Run Try.prog (Instr.loadAt 32 d_1) w9 fun t14 w10 =>
  GoN Try.prog (callFunc 7 #[t10, t14]) w10 fun t15 w11 =>
  Run Try.prog (Op.unary Go.UnOp.not t15) w11 fun t16 w12 =>
  GuardP t16 false (fun (k1 : N1) => k1 t12 w12) w12 fun t18 w13 =>
  GuardP t16 false (fun (k2 : N1) => Run Try.prog (Instr.loadAt 32 d_1) w13 k2) w13 fun t19 w14 =>
  GuardP t16 false (fun (k3 : N1) => GoN Try.prog (callFunc 7 #[t18, t19]) w14 k3) w14 fun t20 w15 =>
  GuardP t16 false (fun (k4 : N1) => Run Try.prog (Op.unary Go.UnOp.not t20) w15 k4) w15 fun t21 w16 =>
  PickP t16 (Go.Value.bool true) t21 w16 fun t22 w17 =>
  GuardP t22 false (fun (k5 : N1) => Run Try.prog (Instr.loadAt 32 x_3) w17 k5) w17 fun t24 w18 =>
  GuardP t22 false (fun (k6 : N1) => Run Try.prog (Instr.loadAt 32 d_1) w18 k6) w18 fun t25 w19 =>
  GuardP t22 false (fun (k7 : N1) => GoN Try.prog (callFunc 8 #[t24, t25]) w19 k7) w19 fun t26 w20 =>
  GuardP t22 false (fun (k8 : N1) => Run Try.prog (Op.unary Go.UnOp.not t26) w20 k8) w20 fun t27 w21 =>
  PickP t22 (Go.Value.bool true) t27 w21 fun t28 w22 =>
  CondP t28 1 (fun (k9 : N1) =>
    R (Go.Value.bool false) w22)
  (fun (k10 : N1) =>
    k10 (Go.Value.bool false) w22)
  (fun (t2 : Value) (w23 : World) => 
  Run Try.prog (Instr.alloc 54 true (.tuple #[])) w23 fun k_6 w24 =>
  GoN Try.prog (callFunc 9 #[k_6, t10]) w24 fun t30 w25 =>
  GoN Try.prog (callFunc 9 #[k_6, t12]) w25 fun t32 w26 =>
  GoN Try.prog (callFunc 10 #[k_6]) w26 fun t33 w27 =>
  GuardP t33 true (fun (k11 : N1) => Run Try.prog (Instr.loadAt 32 x_3) w27 k11) w27 fun t35 w28 =>
  GuardP t33 true (fun (k12 : N1) => Run Try.prog (Instr.loadAt 32 d_1) w28 k12) w28 fun t36 w29 =>
  GuardP t33 true (fun (k13 : N1) => GoN Try.prog (callFunc 8 #[t35, t36]) w29 k13) w29 fun t37 w30 =>
  PickP t33 t37 (Go.Value.bool false) w30 fun t38 w31 =>
  R t38 w31)
theorem S3_eq (d_0 : Value) (w : World) (R : Value → World → Prop) : vcFn Try.prog Try.f3 [d_0] w R = S3 d_0 w R := by kernel_rfl
theorem D3 {d_0 : Value} {w : World} {R : Value → World → Prop} (h : S3 d_0 w R) : Does Try.prog 3 [d_0] w R :=
  does_of_vc mixed Try.func3 (by kernel_rfl) (by kernel_rfl) ((S3_eq d_0 w R).mpr h)

/-- busbar/busbarlaw05.NodeFinds -/
def S4 (d_0 name_1 : Value) (w : World) (R : Value → World → Prop) : Prop :=
  Run Try.prog (Instr.box 32 d_0) w fun d_2 w1 =>
  Run Try.prog (Instr.loadAt 32 d_2) w1 fun t16 w2 =>
  GoN Try.prog (callFunc 6 #[t16]) w2 fun t17 w3 =>
  Run Try.prog (Instr.loadAt 32 d_2) w3 fun t19 w4 =>
  GoN Try.prog (callFunc 7 #[t17, t19]) w4 fun t20 w5 =>
  Run Try.prog (Op.unary Go.UnOp.not t20) w5 fun t21 w6 =>
  CondP t21 1 (fun (k1 : N1) =>
    R (Go.Value.bool false) w6)
  (fun (k2 : N1) =>
    k2 (Go.Value.bool false) w6)
  (fun (t4 : Value) (w7 : World) => 
  Run Try.prog (Instr.fieldAt 32 d_2 3) w7 fun t23 w8 =>
  Run Try.prog (Instr.loadAt 29 t23) w8 fun t24 w9 =>
  GoN Try.prog (callFunc 11 #[t24, name_1]) w9 fun t26 w10 =>
  Run Try.prog (Instr.extract t26 0) w10 fun t27 w11 =>
  Run Try.prog (Instr.extract t26 1) w11 fun t28 w12 =>
  Run Try.prog (Instr.alloc 62 true (.tuple #[])) w12 fun want_6 w13 =>
  RunU Try.prog (Instr.storeAt 62 want_6 t27) w13 fun w14 =>
  GoN Try.prog (callFunc 12 #[t17, name_1]) w14 fun t32 w15 =>
  Run Try.prog (Instr.extract t32 0) w15 fun t33 w16 =>
  Run Try.prog (Instr.extract t32 1) w16 fun t34 w17 =>
  Run Try.prog (Instr.alloc 62 true (.tuple #[])) w17 fun got_8 w18 =>
  RunU Try.prog (Instr.storeAt 62 got_8 t33) w18 fun w19 =>
  GoN Try.prog (callFunc 12 #[t17, name_1]) w19 fun t38 w20 =>
  Run Try.prog (Instr.extract t38 0) w20 fun t39 w21 =>
  Run Try.prog (Instr.extract t38 1) w21 fun t40 w22 =>
  Run Try.prog (Instr.alloc 62 true (.tuple #[])) w22 fun again_10 w23 =>
  RunU Try.prog (Instr.storeAt 62 again_10 t39) w23 fun w24 =>
  Run Try.prog (binSem Go.BinOp.neq 4 (Go.Operand.tmp 41) (Go.Operand.tmp 42) t34 t28) w24 fun t43 w25 =>
  GuardP t43 false (fun (k3 : N1) => k3 t40 w25) w25 fun t45 w26 =>
  GuardP t43 false (fun (k4 : N1) => k4 t28 w26) w26 fun t46 w27 =>
  GuardP t43 false (fun (k5 : N1) => Run Try.prog (binSem Go.BinOp.neq 4 (Go.Operand.tmp 45) (Go.Operand.tmp 46) t45 t46) w27 k5) w27 fun t47 w28 =>
  PickP t43 (Go.Value.bool true) t47 w28 fun t48 w29 =>
  GuardP t48 false (fun (k6 : N1) => Run Try.prog (Instr.loadAt 62 got_8) w29 k6) w29 fun t50 w30 =>
  GuardP t48 false (fun (k7 : N1) => Run Try.prog (Instr.loadAt 62 want_6) w30 k7) w30 fun t51 w31 =>
  GuardP t48 false (fun (k8 : N1) => GoN Try.prog (callFunc 13 #[t50, t51]) w31 k8) w31 fun t52 w32 =>
  GuardP t48 false (fun (k9 : N1) => Run Try.prog (Op.unary Go.UnOp.not t52) w32 k9) w32 fun t53 w33 =>
  PickP t48 (Go.Value.bool true) t53 w33 fun t54 w34 =>
  GuardP t54 false (fun (k10 : N1) => Run Try.prog (Instr.loadAt 62 again_10) w34 k10) w34 fun t56 w35 =>
  GuardP t54 false (fun (k11 : N1) => Run Try.prog (Instr.loadAt 62 want_6) w35 k11) w35 fun t57 w36 =>
  GuardP t54 false (fun (k12 : N1) => GoN Try.prog (callFunc 13 #[t56, t57]) w36 k12) w36 fun t58 w37 =>
  GuardP t54 false (fun (k13 : N1) => Run Try.prog (Op.unary Go.UnOp.not t58) w37 k13) w37 fun t59 w38 =>
  PickP t54 (Go.Value.bool true) t59 w38 fun t60 w39 =>
  CondP t60 1 (fun (k14 : N1) =>
    R (Go.Value.bool false) w39)
  (fun (k15 : N1) =>
    k15 t4 w39)
  (fun (t4 : Value) (w40 : World) => 
  Run Try.prog (Instr.alloc 54 true (.tuple #[])) w40 fun k_12 w41 =>
  Run Try.prog (Instr.loadAt 62 got_8) w41 fun t61 w42 =>
  GoN Try.prog (callFunc 14 #[k_12, t61]) w42 fun t62 w43 =>
  Run Try.prog (Instr.loadAt 62 again_10) w43 fun t63 w44 =>
  GoN Try.prog (callFunc 14 #[k_12, t63]) w44 fun t64 w45 =>
  JoinP 3 (fun (k16 : N3) =>
    LoopP 3 (fun (k17 : N3) => (fun (t4 : Value) (n_13 : Value) (i_14 : Value) (w46 : World) => 
      Run Try.prog (Builtin.len_ #[34] 3 #[t17]) w46 fun t67 w47 =>
      Run Try.prog (binSem Go.BinOp.lss 3 (Go.Operand.tmp 65) (Go.Operand.tmp 67) i_14 t67) w47 fun t68 w48 =>
      CondP t68 0 (fun (k18 : N0) =>
        k18 w48)
      (fun (k19 : N0) =>
        k16 t4 n_13 i_14 w48)
      (fun (w49 : World) => 
      JoinP 2 (fun (k20 : N2) =>
        Run Try.prog (Instr.indexAt 34 t17 i_14) w49 fun t73 w50 =>
        Run Try.prog (Instr.loadAt 70 t73) w50 fun t74 w51 =>
        GoN Try.prog (callFunc 15 #[t74]) w51 fun t75 w52 =>
        Run Try.prog (binSem Go.BinOp.neq 9 (Go.Operand.tmp 75) (Go.Operand.const (Go.Value.string { data := #[109, 101, 115, 115, 97, 103, 101] })) t75 (Go.Value.string { data := #[109, 101, 115, 115, 97, 103, 101] })) w52 fun t76 w53 =>
        CondP t76 0 (fun (k21 : N0) =>
          k20 t4 n_13 w53)
        (fun (k22 : N0) =>
          k22 w53)
        (fun (w54 : World) => 
        Run Try.prog (Instr.indexAt 34 t17 i_14) w54 fun t79 w55 =>
        Run Try.prog (Instr.loadAt 70 t79) w55 fun t80 w56 =>
        GoN Try.prog (callFunc 16 #[t80]) w56 fun t81 w57 =>
        Run Try.prog (Instr.alloc 62 true (.tuple #[])) w57 fun m_15 w58 =>
        RunU Try.prog (Instr.storeAt 62 m_15 t81) w58 fun w59 =>
        ∀ w60, Ext w59 w60 →
        RunQ Try.prog (Instr.fieldAt 32 d_2 3) w60 fun t83 =>
        RunQ Try.prog (Instr.loadAt 29 t83) w60 fun t84 =>
        RunQ Try.prog (Builtin.len_ #[29] 3 #[t84]) w60 fun t85 =>
        RunQ Try.prog (binSem Go.BinOp.geq 3 (Go.Operand.tmp 82) (Go.Operand.tmp 85) n_13 t85) w60 fun t86 =>
        GuardQ t86 false (fun (k23 : Value → Prop) => RunQ Try.prog (Instr.loadAt 62 m_15) w60 k23) fun t88 =>
        GuardQ t86 false (fun (k24 : Value → Prop) => RunQ Try.prog (Instr.fieldAt 32 d_2 3) w60 k24) fun t89 =>
        GuardQ t86 false (fun (k25 : Value → Prop) => RunQ Try.prog (Instr.loadAt 29 t89) w60 k25) fun t90 =>
        GuardQ t86 false (fun (k26 : Value → Prop) => k26 n_13) fun t91 =>
        GuardQ t86 false (fun (k27 : Value → Prop) => RunQ Try.prog (Instr.indexAt 29 t90 t91) w60 k27) fun t92 =>
        GuardQ t86 false (fun (k28 : Value → Prop) => RunQ Try.prog (Instr.loadAt 62 t92) w60 k28) fun t93 =>
        GuardP t86 false (fun (k29 : N1) => GoN Try.prog (callFunc 13 #[t88, t93]) w60 k29) w60 fun t94 w61 => Ext w60 w61 ∧
        GuardQ t86 false (fun (k30 : Value → Prop) => RunQ Try.prog (Op.unary Go.UnOp.not t94) w60 k30) fun t95 =>
        PickQ t86 (Go.Value.bool true) t95 fun t96 =>
        CondP t96 1 (fun (k31 : N1) =>
          R (Go.Value.bool false) w61)
        (fun (k32 : N1) =>
          k32 t4 w61)
        (fun (t4 : Value) (w62 : World) => 
        Run Try.prog (Instr.loadAt 62 m_15) w62 fun t97 w63 =>
        GoN Try.prog (callFunc 14 #[k_12, t97]) w63 fun t98 w64 =>
        Run Try.prog (binSem Go.BinOp.add 3 (Go.Operand.tmp 99) (Go.Operand.const (Go.Value.int Go.IntKind.i64 1)) n_13 (Go.Value.int Go.IntKind.i64 1)) w64 fun t100 w65 =>
        k20 t4 t100 w65)))
      (fun (t4 : Value) (n_13 : Value) (w66 : World) => 
      Run Try.prog (binSem Go.BinOp.add 3 (Go.Operand.tmp 69) (Go.Operand.const (Go.Value.int Go.IntKind.i64 1)) i_14 (Go.Value.int Go.IntKind.i64 1)) w66 fun t70 w67 =>
      k17 t4 n_13 t70 w67))))
    [t4, (Go.Value.int Go.IntKind.i64 0), (Go.Value.int Go.IntKind.i64 0)] w45)
  (fun (t4 : Value) (n_13 : Value) (i_14 : Value) (w68 : World) => 
  Run Try.prog (Instr.fieldAt 32 d_2 3) w68 fun t102 w69 =>
  Run Try.prog (Instr.loadAt 29 t102) w69 fun t103 w70 =>
  Run Try.prog (Builtin.len_ #[29] 3 #[t103]) w70 fun t104 w71 =>
  Run Try.prog (binSem Go.BinOp.eql 3 (Go.Operand.tmp 101) (Go.Operand.tmp 104) n_13 t104) w71 fun t105 w72 =>
  GuardP t105 true (fun (k33 : N1) => GoN Try.prog (callFunc 10 #[k_12]) w72 k33) w72 fun t107 w73 =>
  PickP t105 t107 (Go.Value.bool false) w73 fun t108 w74 =>
  GuardP t108 true (fun (k34 : N1) => k34 t17 w74) w74 fun t110 w75 =>
  GuardP t108 true (fun (k35 : N1) => Run Try.prog (Instr.loadAt 32 d_2) w75 k35) w75 fun t111 w76 =>
  GuardP t108 true (fun (k36 : N1) => GoN Try.prog (callFunc 7 #[t110, t111]) w76 k36) w76 fun t112 w77 =>
  PickP t108 t112 (Go.Value.bool false) w77 fun t113 w78 =>
  R t113 w78)))
theorem S4_eq (d_0 name_1 : Value) (w : World) (R : Value → World → Prop) : vcFn Try.prog Try.f4 [d_0, name_1] w R = S4 d_0 name_1 w R := by kernel_rfl
theorem D4 {d_0 name_1 : Value} {w : World} {R : Value → World → Prop} (h : S4 d_0 name_1 w R) : Does Try.prog 4 [d_0, name_1] w R :=
  does_of_vc mixed Try.func4 (by kernel_rfl) (by kernel_rfl) ((S4_eq d_0 name_1 w R).mpr h)

/-- busbar/busbarkit.LentDatabase -/
def S5 (s_0 : Value) (w : World) (R : Value → World → Prop) : Prop :=
  Run Try.prog (Instr.box 32 s_0) w fun s_1 w1 =>
  Run Try.prog (Instr.alloc 32 true (.tuple #[])) w1 fun t2 w2 =>
  Run Try.prog (Instr.loadAt 32 s_1) w2 fun t4 w3 =>
  Run Try.prog (Instr.alloc 32 true (.tuple #[])) w3 fun x_3 w4 =>
  RunU Try.prog (Instr.storeAt 32 x_3 t4) w4 fun w5 =>
  Run Try.prog (Instr.fieldAt 32 s_1 3) w5 fun t5 w6 =>
  Run Try.prog (Instr.loadAt 29 t5) w6 fun t6 w7 =>
  GoN Try.prog (callFunc 17 #[t6]) w7 fun t7 w8 =>
  Run Try.prog (Instr.fieldAt 32 x_3 3) w8 fun t8 w9 =>
  RunU Try.prog (Instr.storeAt 29 t8 t7) w9 fun w10 =>
  Run Try.prog (Instr.fieldAt 32 s_1 4) w10 fun t9 w11 =>
  Run Try.prog (Instr.loadAt 30 t9) w11 fun t10 w12 =>
  GoN Try.prog (callFunc 18 #[t10]) w12 fun t11 w13 =>
  Run Try.prog (Instr.fieldAt 32 x_3 4) w13 fun t12 w14 =>
  RunU Try.prog (Instr.storeAt 30 t12 t11) w14 fun w15 =>
  Run Try.prog (Instr.fieldAt 32 s_1 2) w15 fun t13 w16 =>
  Run Try.prog (Instr.loadAt 28 t13) w16 fun t14 w17 =>
  GoN Try.prog (callFunc 19 #[t14]) w17 fun t15 w18 =>
  Run Try.prog (Instr.fieldAt 32 x_3 2) w18 fun t16 w19 =>
  RunU Try.prog (Instr.storeAt 28 t16 t15) w19 fun w20 =>
  Run Try.prog (Instr.loadAt 32 x_3) w20 fun t17 w21 =>
  RunU Try.prog (Instr.storeAt 32 t2 t17) w21 fun w22 =>
  resK Try.prog t2 32 w22 fun r0 =>
  R r0 w22
theorem S5_eq (s_0 : Value) (w : World) (R : Value → World → Prop) : vcFn Try.prog Try.f5 [s_0] w R = S5 s_0 w R := by kernel_rfl
theorem D5 {s_0 : Value} {w : World} {R : Value → World → Prop} (h : S5 s_0 w R) : Does Try.prog 5 [s_0] w R :=
  does_of_vc mixed Try.func5 (by kernel_rfl) (by kernel_rfl) ((S5_eq s_0 w R).mpr h)

/-- busbar/node.List -/
def S6 (d_0 : Value) (w : World) (R : Value → World → Prop) : Prop :=
  Run Try.prog (Instr.box 32 d_0) w fun d_1 w1 =>
  Run Try.prog (Instr.fieldAt 32 d_1 0) w1 fun t8 w2 =>
  Run Try.prog (Instr.loadAt 4 t8) w2 fun t9 w3 =>
  CondP t9 1 (fun (k1 : N1) =>
    Run Try.prog (Instr.fieldAt 32 d_1 1) w3 fun t11 w4 =>
    Run Try.prog (Instr.loadAt 25 t11) w4 fun t12 w5 =>
    Run Try.prog (Instr.makeInterface 25 t12) w5 fun t13 w6 =>
    Run Try.prog (Instr.buildSlice 34 1 #[(0, t13)]) w6 fun t14 w7 =>
    Run Try.prog (Builtin.append_ #[34, 34] 34 #[(Go.Value.slice none 0 0), t14]) w7 fun t15 w8 =>
    k1 t15 w8)
  (fun (k2 : N1) =>
    k2 (Go.Value.slice none 0 0) w3)
  (fun (l_3 : Value) (w9 : World) => 
  Run Try.prog (Instr.fieldAt 32 d_1 2) w9 fun t17 w10 =>
  Run Try.prog (Instr.loadAt 28 t17) w10 fun t18 w11 =>
  GoN Try.prog (callFunc 20 #[t18]) w11 fun t19 w12 =>
  Run Try.prog (Instr.makeInterface 28 t19) w12 fun t20 w13 =>
  Run Try.prog (Instr.buildSlice 34 1 #[(0, t20)]) w13 fun t21 w14 =>
  Run Try.prog (Builtin.append_ #[34, 34] 34 #[l_3, t21]) w14 fun t22 w15 =>
  Run Try.prog (Instr.fieldAt 32 d_1 3) w15 fun t23 w16 =>
  Run Try.prog (Instr.loadAt 29 t23) w16 fun t24 w17 =>
  Run Try.prog (Builtin.len_ #[29] 3 #[t24]) w17 fun t25 w18 =>
  JoinP 2 (fun (k3 : N2) =>
    LoopP 2 (fun (k4 : N2) => (fun (l_3 : Value) (t26 : Value) (w19 : World) => 
      Run Try.prog (binSem Go.BinOp.lss 3 (Go.Operand.tmp 26) (Go.Operand.tmp 25) t26 t25) w19 fun t27 w20 =>
      CondP t27 0 (fun (k5 : N0) =>
        k5 w20)
      (fun (k6 : N0) =>
        k3 l_3 t26 w20)
      (fun (w21 : World) => 
      JoinP 1 (fun (k7 : N1) =>
        Run Try.prog (Instr.indexAt 29 t24 t26) w21 fun t28 w22 =>
        Run Try.prog (Instr.loadAt 62 t28) w22 fun t29 w23 =>
        Run Try.prog (Instr.alloc 62 true (.tuple #[])) w23 fun m_5 w24 =>
        RunU Try.prog (Instr.storeAt 62 m_5 t29) w24 fun w25 =>
        Run Try.prog (Instr.loadAt 62 m_5) w25 fun t31 w26 =>
        GoN Try.prog (callFunc 21 #[t31]) w26 fun t32 w27 =>
        Run Try.prog (Instr.makeInterface 62 t32) w27 fun t33 w28 =>
        Run Try.prog (Instr.buildSlice 34 1 #[(0, t33)]) w28 fun t34 w29 =>
        Run Try.prog (Builtin.append_ #[34, 34] 34 #[l_3, t34]) w29 fun t35 w30 =>
        k7 t35 w30)
      (fun (l_3 : Value) (w31 : World) => 
      Run Try.prog (binSem Go.BinOp.add 3 (Go.Operand.tmp 26) (Go.Operand.const (Go.Value.int Go.IntKind.i64 1)) t26 (Go.Value.int Go.IntKind.i64 1)) w31 fun t36 w32 =>
      k4 l_3 t36 w32))))
    [t22, (Go.Value.int Go.IntKind.i64 0)] w18)
  (fun (l_3 : Value) (t26 : Value) (w33 : World) => 
  Run Try.prog (Instr.fieldAt 32 d_1 4) w33 fun t37 w34 =>
  Run Try.prog (Instr.loadAt 30 t37) w34 fun t38 w35 =>
  Run Try.prog (Builtin.len_ #[30] 3 #[t38]) w35 fun t39 w36 =>
  JoinP 2 (fun (k8 : N2) =>
    LoopP 2 (fun (k9 : N2) => (fun (l_3 : Value) (t40 : Value) (w37 : World) => 
      Run Try.prog (binSem Go.BinOp.lss 3 (Go.Operand.tmp 40) (Go.Operand.tmp 39) t40 t39) w37 fun t41 w38 =>
      CondP t41 0 (fun (k10 : N0) =>
        k10 w38)
      (fun (k11 : N0) =>
        k8 l_3 t40 w38)
      (fun (w39 : World) => 
      JoinP 1 (fun (k12 : N1) =>
        Run Try.prog (Instr.indexAt 30 t38 t40) w39 fun t42 w40 =>
        Run Try.prog (Instr.loadAt 79 t42) w40 fun t43 w41 =>
        Run Try.prog (Instr.alloc 79 true (.tuple #[])) w41 fun t_7 w42 =>
        RunU Try.prog (Instr.storeAt 79 t_7 t43) w42 fun w43 =>
        Run Try.prog (Instr.loadAt 79 t_7) w43 fun t45 w44 =>
        GoN Try.prog (callFunc 22 #[t45]) w44 fun t46 w45 =>
        Run Try.prog (Instr.makeInterface 79 t46) w45 fun t47 w46 =>
        Run Try.prog (Instr.buildSlice 34 1 #[(0, t47)]) w46 fun t48 w47 =>
        Run Try.prog (Builtin.append_ #[34, 34] 34 #[l_3, t48]) w47 fun t49 w48 =>
        k12 t49 w48)
      (fun (l_3 : Value) (w49 : World) => 
      Run Try.prog (binSem Go.BinOp.add 3 (Go.Operand.tmp 40) (Go.Operand.const (Go.Value.int Go.IntKind.i64 1)) t40 (Go.Value.int Go.IntKind.i64 1)) w49 fun t50 w50 =>
      k9 l_3 t50 w50))))
    [l_3, (Go.Value.int Go.IntKind.i64 0)] w36)
  (fun (l_3 : Value) (t40 : Value) (w51 : World) => 
  R l_3 w51)))
theorem S6_eq (d_0 : Value) (w : World) (R : Value → World → Prop) : vcFn Try.prog Try.f6 [d_0] w R = S6 d_0 w R := by kernel_rfl
theorem D6 {d_0 : Value} {w : World} {R : Value → World → Prop} (h : S6 d_0 w R) : Does Try.prog 6 [d_0] w R :=
  does_of_vc mixed Try.func6 (by kernel_rfl) (by kernel_rfl) ((S6_eq d_0 w R).mpr h)

/-- busbar/busbarlaw05.told -/
def S7 (l_0 d_1 : Value) (w : World) (R : Value → World → Prop) : Prop :=
  Run Try.prog (Instr.box 32 d_1) w fun d_3 w1 =>
  Run Try.prog (Instr.loadAt 32 d_3) w1 fun t17 w2 =>
  GoN Try.prog (callFunc 23 #[t17]) w2 fun t18 w3 =>
  Run Try.prog (Builtin.len_ #[34] 3 #[l_0]) w3 fun t20 w4 =>
  Run Try.prog (Builtin.len_ #[81] 3 #[t18]) w4 fun t22 w5 =>
  Run Try.prog (binSem Go.BinOp.neq 3 (Go.Operand.tmp 20) (Go.Operand.tmp 22) t20 t22) w5 fun t23 w6 =>
  CondP t23 1 (fun (k1 : N1) =>
    R (Go.Value.bool false) w6)
  (fun (k2 : N1) =>
    k2 (Go.Value.bool false) w6)
  (fun (t4 : Value) (w7 : World) => 
  JoinP 4 (fun (k3 : N4) =>
    LoopP 4 (fun (k4 : N4) => (fun (messages_6 : Value) (t4 : Value) (tables_7 : Value) (i_8 : Value) (w8 : World) => 
      Run Try.prog (Builtin.len_ #[34] 3 #[l_0]) w8 fun t26 w9 =>
      Run Try.prog (binSem Go.BinOp.lss 3 (Go.Operand.tmp 24) (Go.Operand.tmp 26) i_8 t26) w9 fun t27 w10 =>
      CondP t27 0 (fun (k5 : N0) =>
        k5 w10)
      (fun (k6 : N0) =>
        k3 messages_6 t4 tables_7 i_8 w10)
      (fun (w11 : World) => 
      JoinP 3 (fun (k7 : N3) =>
        Run Try.prog (Instr.indexAt 34 l_0 i_8) w11 fun t33 w12 =>
        Run Try.prog (Instr.loadAt 70 t33) w12 fun t34 w13 =>
        Run Try.prog (Instr.typeAssert t34 70 25 true) w13 fun t35 w14 =>
        Run Try.prog (Instr.extract t35 0) w14 fun t36 w15 =>
        Run Try.prog (Instr.extract t35 1) w15 fun t37 w16 =>
        Run Try.prog (Instr.alloc 25 true (.tuple #[])) w16 fun v_9 w17 =>
        RunU Try.prog (Instr.storeAt 25 v_9 t36) w17 fun w18 =>
        Run Try.prog (Instr.indexAt 34 l_0 i_8) w18 fun t41 w19 =>
        Run Try.prog (Instr.loadAt 70 t41) w19 fun t42 w20 =>
        Run Try.prog (Instr.typeAssert t42 70 28 true) w20 fun t43 w21 =>
        Run Try.prog (Instr.extract t43 0) w21 fun t44 w22 =>
        Run Try.prog (Instr.extract t43 1) w22 fun t45 w23 =>
        Run Try.prog (Instr.alloc 28 true (.tuple #[])) w23 fun s_11 w24 =>
        RunU Try.prog (Instr.storeAt 28 s_11 t44) w24 fun w25 =>
        Run Try.prog (Instr.indexAt 34 l_0 i_8) w25 fun t49 w26 =>
        Run Try.prog (Instr.loadAt 70 t49) w26 fun t50 w27 =>
        Run Try.prog (Instr.typeAssert t50 70 62 true) w27 fun t51 w28 =>
        Run Try.prog (Instr.extract t51 0) w28 fun t52 w29 =>
        Run Try.prog (Instr.extract t51 1) w29 fun t53 w30 =>
        Run Try.prog (Instr.alloc 62 true (.tuple #[])) w30 fun m_13 w31 =>
        RunU Try.prog (Instr.storeAt 62 m_13 t52) w31 fun w32 =>
        Run Try.prog (Instr.indexAt 34 l_0 i_8) w32 fun t57 w33 =>
        Run Try.prog (Instr.loadAt 70 t57) w33 fun t58 w34 =>
        Run Try.prog (Instr.typeAssert t58 70 79 true) w34 fun t59 w35 =>
        Run Try.prog (Instr.extract t59 0) w35 fun t60 w36 =>
        Run Try.prog (Instr.extract t59 1) w36 fun t61 w37 =>
        Run Try.prog (Instr.alloc 79 true (.tuple #[])) w37 fun t_15 w38 =>
        RunU Try.prog (Instr.storeAt 79 t_15 t60) w38 fun w39 =>
        Run Try.prog (Instr.indexAt 81 t18 i_8) w39 fun t65 w40 =>
        Run Try.prog (Instr.loadAt 3 t65) w40 fun t66 w41 =>
        Run Try.prog (binSem Go.BinOp.eql 3 (Go.Operand.tmp 66) (Go.Operand.const (Go.Value.int Go.IntKind.i64 1)) t66 (Go.Value.int Go.IntKind.i64 1)) w41 fun t67 w42 =>
        Run Try.prog (binSem Go.BinOp.neq 4 (Go.Operand.tmp 62) (Go.Operand.tmp 67) t37 t67) w42 fun t68 w43 =>
        GuardP t68 false (fun (k8 : N1) => k8 t45 w43) w43 fun t70 w44 =>
        GuardP t68 false (fun (k9 : N1) => k9 t18 w44) w44 fun t71 w45 =>
        GuardP t68 false (fun (k10 : N1) => k10 i_8 w45) w45 fun t72 w46 =>
        GuardP t68 false (fun (k11 : N1) => Run Try.prog (Instr.indexAt 81 t71 t72) w46 k11) w46 fun t73 w47 =>
        GuardP t68 false (fun (k12 : N1) => Run Try.prog (Instr.loadAt 3 t73) w47 k12) w47 fun t74 w48 =>
        GuardP t68 false (fun (k13 : N1) => Run Try.prog (binSem Go.BinOp.eql 3 (Go.Operand.tmp 74) (Go.Operand.const (Go.Value.int Go.IntKind.i64 2)) t74 (Go.Value.int Go.IntKind.i64 2)) w48 k13) w48 fun t75 w49 =>
        GuardP t68 false (fun (k14 : N1) => Run Try.prog (binSem Go.BinOp.neq 4 (Go.Operand.tmp 70) (Go.Operand.tmp 75) t70 t75) w49 k14) w49 fun t76 w50 =>
        PickP t68 (Go.Value.bool true) t76 w50 fun t77 w51 =>
        GuardP t77 false (fun (k15 : N1) => k15 t53 w51) w51 fun t79 w52 =>
        GuardP t77 false (fun (k16 : N1) => k16 t18 w52) w52 fun t80 w53 =>
        GuardP t77 false (fun (k17 : N1) => k17 i_8 w53) w53 fun t81 w54 =>
        GuardP t77 false (fun (k18 : N1) => Run Try.prog (Instr.indexAt 81 t80 t81) w54 k18) w54 fun t82 w55 =>
        GuardP t77 false (fun (k19 : N1) => Run Try.prog (Instr.loadAt 3 t82) w55 k19) w55 fun t83 w56 =>
        GuardP t77 false (fun (k20 : N1) => Run Try.prog (binSem Go.BinOp.eql 3 (Go.Operand.tmp 83) (Go.Operand.const (Go.Value.int Go.IntKind.i64 3)) t83 (Go.Value.int Go.IntKind.i64 3)) w56 k20) w56 fun t84 w57 =>
        GuardP t77 false (fun (k21 : N1) => Run Try.prog (binSem Go.BinOp.neq 4 (Go.Operand.tmp 79) (Go.Operand.tmp 84) t79 t84) w57 k21) w57 fun t85 w58 =>
        PickP t77 (Go.Value.bool true) t85 w58 fun t86 w59 =>
        GuardP t86 false (fun (k22 : N1) => k22 t61 w59) w59 fun t88 w60 =>
        GuardP t86 false (fun (k23 : N1) => k23 t18 w60) w60 fun t89 w61 =>
        GuardP t86 false (fun (k24 : N1) => k24 i_8 w61) w61 fun t90 w62 =>
        GuardP t86 false (fun (k25 : N1) => Run Try.prog (Instr.indexAt 81 t89 t90) w62 k25) w62 fun t91 w63 =>
        GuardP t86 false (fun (k26 : N1) => Run Try.prog (Instr.loadAt 3 t91) w63 k26) w63 fun t92 w64 =>
        GuardP t86 false (fun (k27 : N1) => Run Try.prog (binSem Go.BinOp.eql 3 (Go.Operand.tmp 92) (Go.Operand.const (Go.Value.int Go.IntKind.i64 4)) t92 (Go.Value.int Go.IntKind.i64 4)) w64 k27) w64 fun t93 w65 =>
        GuardP t86 false (fun (k28 : N1) => Run Try.prog (binSem Go.BinOp.neq 4 (Go.Operand.tmp 88) (Go.Operand.tmp 93) t88 t93) w65 k28) w65 fun t94 w66 =>
        PickP t86 (Go.Value.bool true) t94 w66 fun t95 w67 =>
        CondP t95 1 (fun (k29 : N1) =>
          R (Go.Value.bool false) w67)
        (fun (k30 : N1) =>
          k30 t4 w67)
        (fun (t4 : Value) (w68 : World) => 
        ∀ w69, Ext w68 w69 →
        GuardQ t37 true (fun (k31 : Value → Prop) => RunQ Try.prog (Instr.loadAt 25 v_9) w69 k31) fun t98 =>
        GuardQ t37 true (fun (k32 : Value → Prop) => RunQ Try.prog (Instr.fieldAt 32 d_3 1) w69 k32) fun t99 =>
        GuardQ t37 true (fun (k33 : Value → Prop) => RunQ Try.prog (Instr.loadAt 25 t99) w69 k33) fun t100 =>
        GuardQ t37 true (fun (k34 : Value → Prop) => RunQ Try.prog (binSem Go.BinOp.neq 25 (Go.Operand.tmp 98) (Go.Operand.tmp 100) t98 t100) w69 k34) fun t101 =>
        GuardQ t37 true (fun (k35 : Value → Prop) => k35 t101) fun t102 =>
        GuardQ t102 false (fun (k36 : Value → Prop) => k36 l_0) fun t103 =>
        GuardQ t102 false (fun (k37 : Value → Prop) => k37 i_8) fun t104 =>
        GuardQ t102 false (fun (k38 : Value → Prop) => RunQ Try.prog (Instr.indexAt 34 t103 t104) w69 k38) fun t105 =>
        GuardQ t102 false (fun (k39 : Value → Prop) => RunQ Try.prog (Instr.loadAt 70 t105) w69 k39) fun t106 =>
        GuardP t102 false (fun (k40 : N1) => GoN Try.prog (callMethod t106 "Where" #[]) w69 k40) w69 fun t107 w70 => Ext w69 w70 ∧
        GuardQ t102 false (fun (k41 : Value → Prop) => RunQ Try.prog (Instr.fieldAt 25 v_9 0) w69 k41) fun t108 =>
        GuardQ t102 false (fun (k42 : Value → Prop) => RunQ Try.prog (Instr.loadAt 23 t108) w69 k42) fun t109 =>
        GuardQ t102 false (fun (k43 : Value → Prop) => RunQ Try.prog (binSem Go.BinOp.neq 23 (Go.Operand.tmp 107) (Go.Operand.tmp 109) t107 t109) w69 k43) fun t110 =>
        GuardQ t37 true (fun (k44 : Value → Prop) => PickQ t102 (Go.Value.bool true) t110 k44) fun t111 =>
        PickQ t37 t111 (Go.Value.bool false) fun t112 =>
        GuardQ t112 false (fun (k45 : Value → Prop) => k45 t45) fun t114 =>
        GuardQ t112 false (fun (k46 : Value → Prop) => k46 t114) fun t115 =>
        GuardQ t115 true (fun (k47 : Value → Prop) => RunQ Try.prog (Instr.loadAt 28 s_11) w69 k47) fun t116 =>
        GuardQ t115 true (fun (k48 : Value → Prop) => RunQ Try.prog (Instr.fieldAt 32 d_3 2) w69 k48) fun t117 =>
        GuardQ t115 true (fun (k49 : Value → Prop) => RunQ Try.prog (Instr.loadAt 28 t117) w69 k49) fun t118 =>
        GuardP t115 true (fun (k50 : N1) => GoN Try.prog (callFunc 24 #[t116, t118]) w70 k50) w70 fun t119 w71 => Ext w69 w71 ∧
        GuardQ t115 true (fun (k51 : Value → Prop) => RunQ Try.prog (Op.unary Go.UnOp.not t119) w69 k51) fun t120 =>
        GuardQ t112 false (fun (k52 : Value → Prop) => PickQ t115 t120 (Go.Value.bool false) k52) fun t121 =>
        PickQ t112 (Go.Value.bool true) t121 fun t122 =>
        CondP t122 1 (fun (k53 : N1) =>
          R (Go.Value.bool false) w71)
        (fun (k54 : N1) =>
          k54 t4 w71)
        (fun (t4 : Value) (w72 : World) => 
        CondP t53 2 (fun (k55 : N2) =>
          ∀ w73, Ext w72 w73 →
          RunQ Try.prog (Instr.loadAt 62 m_13) w73 fun t124 =>
          RunQ Try.prog (Instr.fieldAt 32 d_3 3) w73 fun t125 =>
          RunQ Try.prog (Instr.loadAt 29 t125) w73 fun t126 =>
          RunQ Try.prog (Instr.indexAt 29 t126 messages_6) w73 fun t128 =>
          RunQ Try.prog (Instr.loadAt 62 t128) w73 fun t129 =>
          GoN Try.prog (callFunc 13 #[t124, t129]) w73 fun t130 w74 => Ext w73 w74 ∧
          RunQ Try.prog (Op.unary Go.UnOp.not t130) w73 fun t131 =>
          GuardQ t131 false (fun (k56 : Value → Prop) => k56 l_0) fun t133 =>
          GuardQ t131 false (fun (k57 : Value → Prop) => k57 i_8) fun t134 =>
          GuardQ t131 false (fun (k58 : Value → Prop) => RunQ Try.prog (Instr.indexAt 34 t133 t134) w73 k58) fun t135 =>
          GuardQ t131 false (fun (k59 : Value → Prop) => RunQ Try.prog (Instr.loadAt 70 t135) w73 k59) fun t136 =>
          GuardP t131 false (fun (k60 : N1) => GoN Try.prog (callMethod t136 "Where" #[]) w74 k60) w74 fun t137 w75 => Ext w73 w75 ∧
          GuardQ t131 false (fun (k61 : Value → Prop) => RunQ Try.prog (Instr.fieldAt 62 m_13 0) w73 k61) fun t138 =>
          GuardQ t131 false (fun (k62 : Value → Prop) => RunQ Try.prog (Instr.loadAt 23 t138) w73 k62) fun t139 =>
          GuardQ t131 false (fun (k63 : Value → Prop) => RunQ Try.prog (binSem Go.BinOp.neq 23 (Go.Operand.tmp 137) (Go.Operand.tmp 139) t137 t139) w73 k63) fun t140 =>
          PickQ t131 (Go.Value.bool true) t140 fun t141 =>
          CondP t141 1 (fun (k64 : N1) =>
            R (Go.Value.bool false) w75)
          (fun (k65 : N1) =>
            k65 t4 w75)
          (fun (t4 : Value) (w76 : World) => 
          Run Try.prog (binSem Go.BinOp.add 3 (Go.Operand.tmp 142) (Go.Operand.const (Go.Value.int Go.IntKind.i64 1)) messages_6 (Go.Value.int Go.IntKind.i64 1)) w76 fun t143 w77 =>
          k55 t4 t143 w77))
        (fun (k66 : N2) =>
          k66 t4 messages_6 w72)
        (fun (t4 : Value) (messages_6 : Value) (w78 : World) => 
        CondP t61 2 (fun (k67 : N2) =>
          ∀ w79, Ext w78 w79 →
          RunQ Try.prog (Instr.loadAt 79 t_15) w79 fun t145 =>
          RunQ Try.prog (Instr.fieldAt 32 d_3 4) w79 fun t146 =>
          RunQ Try.prog (Instr.loadAt 30 t146) w79 fun t147 =>
          RunQ Try.prog (Instr.indexAt 30 t147 tables_7) w79 fun t149 =>
          RunQ Try.prog (Instr.loadAt 79 t149) w79 fun t150 =>
          GoN Try.prog (callFunc 25 #[t145, t150]) w79 fun t151 w80 => Ext w79 w80 ∧
          RunQ Try.prog (Op.unary Go.UnOp.not t151) w79 fun t152 =>
          GuardQ t152 false (fun (k68 : Value → Prop) => k68 l_0) fun t154 =>
          GuardQ t152 false (fun (k69 : Value → Prop) => k69 i_8) fun t155 =>
          GuardQ t152 false (fun (k70 : Value → Prop) => RunQ Try.prog (Instr.indexAt 34 t154 t155) w79 k70) fun t156 =>
          GuardQ t152 false (fun (k71 : Value → Prop) => RunQ Try.prog (Instr.loadAt 70 t156) w79 k71) fun t157 =>
          GuardP t152 false (fun (k72 : N1) => GoN Try.prog (callMethod t157 "Where" #[]) w80 k72) w80 fun t158 w81 => Ext w79 w81 ∧
          GuardQ t152 false (fun (k73 : Value → Prop) => RunQ Try.prog (Instr.fieldAt 79 t_15 0) w79 k73) fun t159 =>
          GuardQ t152 false (fun (k74 : Value → Prop) => RunQ Try.prog (Instr.loadAt 23 t159) w79 k74) fun t160 =>
          GuardQ t152 false (fun (k75 : Value → Prop) => RunQ Try.prog (binSem Go.BinOp.neq 23 (Go.Operand.tmp 158) (Go.Operand.tmp 160) t158 t160) w79 k75) fun t161 =>
          PickQ t152 (Go.Value.bool true) t161 fun t162 =>
          CondP t162 1 (fun (k76 : N1) =>
            R (Go.Value.bool false) w81)
          (fun (k77 : N1) =>
            k77 t4 w81)
          (fun (t4 : Value) (w82 : World) => 
          Run Try.prog (binSem Go.BinOp.add 3 (Go.Operand.tmp 163) (Go.Operand.const (Go.Value.int Go.IntKind.i64 1)) tables_7 (Go.Value.int Go.IntKind.i64 1)) w82 fun t164 w83 =>
          k67 t4 t164 w83))
        (fun (k78 : N2) =>
          k78 t4 tables_7 w78)
        (fun (t4 : Value) (tables_7 : Value) (w84 : World) => 
        k7 messages_6 t4 tables_7 w84)))))
      (fun (messages_6 : Value) (t4 : Value) (tables_7 : Value) (w85 : World) => 
      Run Try.prog (binSem Go.BinOp.add 3 (Go.Operand.tmp 28) (Go.Operand.const (Go.Value.int Go.IntKind.i64 1)) i_8 (Go.Value.int Go.IntKind.i64 1)) w85 fun t29 w86 =>
      k4 messages_6 t4 tables_7 t29 w86))))
    [(Go.Value.int Go.IntKind.i64 0), t4, (Go.Value.int Go.IntKind.i64 0), (Go.Value.int Go.IntKind.i64 0)] w7)
  (fun (messages_6 : Value) (t4 : Value) (tables_7 : Value) (i_8 : Value) (w87 : World) => 
  R (Go.Value.bool true) w87))
theorem S7_eq (l_0 d_1 : Value) (w : World) (R : Value → World → Prop) : vcFn Try.prog Try.f7 [l_0, d_1] w R = S7 l_0 d_1 w R := by kernel_rfl
theorem D7 {l_0 d_1 : Value} {w : World} {R : Value → World → Prop} (h : S7 l_0 d_1 w R) : Does Try.prog 7 [l_0, d_1] w R :=
  does_of_vc mixed Try.func7 (by kernel_rfl) (by kernel_rfl) ((S7_eq l_0 d_1 w R).mpr h)

/-- busbar/busbarkit.KeptDatabase -/
def S8 (x_0 s_1 : Value) (w : World) (R : Value → World → Prop) : Prop :=
  Run Try.prog (Instr.box 32 x_0) w fun x_2 w1 =>
  Run Try.prog (Instr.box 32 s_1) w1 fun s_3 w2 =>
  Run Try.prog (Instr.fieldAt 32 x_2 0) w2 fun t5 w3 =>
  Run Try.prog (Instr.loadAt 4 t5) w3 fun t6 w4 =>
  Run Try.prog (Instr.fieldAt 32 s_3 0) w4 fun t7 w5 =>
  Run Try.prog (Instr.loadAt 4 t7) w5 fun t8 w6 =>
  Run Try.prog (binSem Go.BinOp.eql 4 (Go.Operand.tmp 6) (Go.Operand.tmp 8) t6 t8) w6 fun t9 w7 =>
  GuardP t9 true (fun (k1 : N1) => Run Try.prog (Instr.fieldAt 32 x_2 1) w7 k1) w7 fun t11 w8 =>
  GuardP t9 true (fun (k2 : N1) => Run Try.prog (Instr.loadAt 25 t11) w8 k2) w8 fun t12 w9 =>
  GuardP t9 true (fun (k3 : N1) => Run Try.prog (Instr.fieldAt 32 s_3 1) w9 k3) w9 fun t13 w10 =>
  GuardP t9 true (fun (k4 : N1) => Run Try.prog (Instr.loadAt 25 t13) w10 k4) w10 fun t14 w11 =>
  GuardP t9 true (fun (k5 : N1) => Run Try.prog (binSem Go.BinOp.eql 25 (Go.Operand.tmp 12) (Go.Operand.tmp 14) t12 t14) w11 k5) w11 fun t15 w12 =>
  PickP t9 t15 (Go.Value.bool false) w12 fun t16 w13 =>
  GuardP t16 true (fun (k6 : N1) => Run Try.prog (Instr.fieldAt 32 x_2 3) w13 k6) w13 fun t18 w14 =>
  GuardP t16 true (fun (k7 : N1) => Run Try.prog (Instr.loadAt 29 t18) w14 k7) w14 fun t19 w15 =>
  GuardP t16 true (fun (k8 : N1) => Run Try.prog (Instr.fieldAt 32 s_3 3) w15 k8) w15 fun t20 w16 =>
  GuardP t16 true (fun (k9 : N1) => Run Try.prog (Instr.loadAt 29 t20) w16 k9) w16 fun t21 w17 =>
  GuardP t16 true (fun (k10 : N1) => GoN Try.prog (callFunc 26 #[t19, t21]) w17 k10) w17 fun t22 w18 =>
  PickP t16 t22 (Go.Value.bool false) w18 fun t23 w19 =>
  GuardP t23 true (fun (k11 : N1) => Run Try.prog (Instr.fieldAt 32 x_2 4) w19 k11) w19 fun t25 w20 =>
  GuardP t23 true (fun (k12 : N1) => Run Try.prog (Instr.loadAt 30 t25) w20 k12) w20 fun t26 w21 =>
  GuardP t23 true (fun (k13 : N1) => Run Try.prog (Instr.fieldAt 32 s_3 4) w21 k13) w21 fun t27 w22 =>
  GuardP t23 true (fun (k14 : N1) => Run Try.prog (Instr.loadAt 30 t27) w22 k14) w22 fun t28 w23 =>
  GuardP t23 true (fun (k15 : N1) => GoN Try.prog (callFunc 27 #[t26, t28]) w23 k15) w23 fun t29 w24 =>
  PickP t23 t29 (Go.Value.bool false) w24 fun t30 w25 =>
  GuardP t30 true (fun (k16 : N1) => Run Try.prog (Instr.fieldAt 32 x_2 2) w25 k16) w25 fun t32 w26 =>
  GuardP t30 true (fun (k17 : N1) => Run Try.prog (Instr.loadAt 28 t32) w26 k17) w26 fun t33 w27 =>
  GuardP t30 true (fun (k18 : N1) => Run Try.prog (Instr.fieldAt 32 s_3 2) w27 k18) w27 fun t34 w28 =>
  GuardP t30 true (fun (k19 : N1) => Run Try.prog (Instr.loadAt 28 t34) w28 k19) w28 fun t35 w29 =>
  GuardP t30 true (fun (k20 : N1) => GoN Try.prog (callFunc 28 #[t33, t35]) w29 k20) w29 fun t36 w30 =>
  PickP t30 t36 (Go.Value.bool false) w30 fun t37 w31 =>
  R t37 w31
theorem S8_eq (x_0 s_1 : Value) (w : World) (R : Value → World → Prop) : vcFn Try.prog Try.f8 [x_0, s_1] w R = S8 x_0 s_1 w R := by kernel_rfl
theorem D8 {x_0 s_1 : Value} {w : World} {R : Value → World → Prop} (h : S8 x_0 s_1 w R) : Does Try.prog 8 [x_0, s_1] w R :=
  does_of_vc mixed Try.func8 (by kernel_rfl) (by kernel_rfl) ((S8_eq x_0 s_1 w R).mpr h)

/-- busbar/busbarlaw05.book -/
def S9 (b_0 l_1 : Value) (w : World) (R : Value → World → Prop) : Prop :=
  JoinP 1 (fun (k1 : N1) =>
    LoopP 1 (fun (k2 : N1) => (fun (i_4 : Value) (w1 : World) => 
      Run Try.prog (Builtin.len_ #[34] 3 #[l_1]) w1 fun t13 w2 =>
      Run Try.prog (binSem Go.BinOp.lss 3 (Go.Operand.tmp 11) (Go.Operand.tmp 13) i_4 t13) w2 fun t14 w3 =>
      CondP t14 0 (fun (k3 : N0) =>
        k3 w3)
      (fun (k4 : N0) =>
        k1 i_4 w3)
      (fun (w4 : World) => 
      JoinP 0 (fun (k5 : N0) =>
        Run Try.prog (Instr.indexAt 34 l_1 i_4) w4 fun t20 w5 =>
        Run Try.prog (Instr.loadAt 70 t20) w5 fun t21 w6 =>
        Run Try.prog (Instr.typeAssert t21 70 28 true) w6 fun t22 w7 =>
        Run Try.prog (Instr.extract t22 0) w7 fun t23 w8 =>
        Run Try.prog (Instr.extract t22 1) w8 fun t24 w9 =>
        Run Try.prog (Instr.alloc 28 true (.tuple #[])) w9 fun s_5 w10 =>
        RunU Try.prog (Instr.storeAt 28 s_5 t23) w10 fun w11 =>
        Run Try.prog (Instr.indexAt 34 l_1 i_4) w11 fun t28 w12 =>
        Run Try.prog (Instr.loadAt 70 t28) w12 fun t29 w13 =>
        Run Try.prog (Instr.typeAssert t29 70 62 true) w13 fun t30 w14 =>
        Run Try.prog (Instr.extract t30 0) w14 fun t31 w15 =>
        Run Try.prog (Instr.extract t30 1) w15 fun t32 w16 =>
        Run Try.prog (Instr.alloc 62 true (.tuple #[])) w16 fun m_7 w17 =>
        RunU Try.prog (Instr.storeAt 62 m_7 t31) w17 fun w18 =>
        Run Try.prog (Instr.indexAt 34 l_1 i_4) w18 fun t36 w19 =>
        Run Try.prog (Instr.loadAt 70 t36) w19 fun t37 w20 =>
        Run Try.prog (Instr.typeAssert t37 70 79 true) w20 fun t38 w21 =>
        Run Try.prog (Instr.extract t38 0) w21 fun t39 w22 =>
        Run Try.prog (Instr.extract t38 1) w22 fun t40 w23 =>
        Run Try.prog (Instr.alloc 79 true (.tuple #[])) w23 fun t_9 w24 =>
        RunU Try.prog (Instr.storeAt 79 t_9 t39) w24 fun w25 =>
        CondP t24 0 (fun (k6 : N0) =>
          Run Try.prog (Instr.loadAt 28 s_5) w25 fun t43 w26 =>
          GoN Try.prog (callFunc 29 #[b_0, t43]) w26 fun t44 w27 =>
          k6 w27)
        (fun (k7 : N0) =>
          k7 w25)
        (fun (w28 : World) => 
        CondP t32 0 (fun (k8 : N0) =>
          Run Try.prog (Instr.loadAt 62 m_7) w28 fun t47 w29 =>
          GoN Try.prog (callFunc 14 #[b_0, t47]) w29 fun t48 w30 =>
          k8 w30)
        (fun (k9 : N0) =>
          k9 w28)
        (fun (w31 : World) => 
        CondP t40 0 (fun (k10 : N0) =>
          Run Try.prog (Instr.loadAt 79 t_9) w31 fun t51 w32 =>
          GoN Try.prog (callFunc 30 #[b_0, t51]) w32 fun t52 w33 =>
          k10 w33)
        (fun (k11 : N0) =>
          k11 w31)
        (fun (w34 : World) => 
        k5 w34))))
      (fun (w35 : World) => 
      Run Try.prog (binSem Go.BinOp.add 3 (Go.Operand.tmp 15) (Go.Operand.const (Go.Value.int Go.IntKind.i64 1)) i_4 (Go.Value.int Go.IntKind.i64 1)) w35 fun t16 w36 =>
      k2 t16 w36))))
    [(Go.Value.int Go.IntKind.i64 0)] w)
  (fun (i_4 : Value) (w37 : World) => 
  R (.tuple #[]) w37)
theorem S9_eq (b_0 l_1 : Value) (w : World) (R : Value → World → Prop) : vcFn Try.prog Try.f9 [b_0, l_1] w R = S9 b_0 l_1 w R := by kernel_rfl
theorem D9 {b_0 l_1 : Value} {w : World} {R : Value → World → Prop} (h : S9 b_0 l_1 w R) : Does Try.prog 9 [b_0, l_1] w R :=
  does_of_vc mixed Try.func9 (by kernel_rfl) (by kernel_rfl) ((S9_eq b_0 l_1 w R).mpr h)

/-- (*busbar/busbarkit.Book).Apart -/
def S10 (b_0 : Value) (w : World) (R : Value → World → Prop) : Prop :=
  Run Try.prog (nilSem b_0) w fun t6 w1 =>
  Run Try.prog (Instr.fieldAt 54 t6 0) w1 fun t7 w2 =>
  Run Try.prog (Instr.loadAt 38 t7) w2 fun t8 w3 =>
  GoN Try.prog (callFunc 31 #[t8]) w3 fun t9 w4 =>
  GuardP t9 true (fun (k1 : N1) => k1 b_0 w4) w4 fun t11 w5 =>
  GuardP t9 true (fun (k2 : N1) => Run Try.prog (nilSem t11) w5 k2) w5 fun t12 w6 =>
  GuardP t9 true (fun (k3 : N1) => Run Try.prog (Instr.fieldAt 54 t12 1) w6 k3) w6 fun t13 w7 =>
  GuardP t9 true (fun (k4 : N1) => Run Try.prog (Instr.loadAt 39 t13) w7 k4) w7 fun t14 w8 =>
  GuardP t9 true (fun (k5 : N1) => GoN Try.prog (callFunc 32 #[t14]) w8 k5) w8 fun t15 w9 =>
  PickP t9 t15 (Go.Value.bool false) w9 fun t16 w10 =>
  GuardP t16 true (fun (k6 : N1) => k6 b_0 w10) w10 fun t18 w11 =>
  GuardP t16 true (fun (k7 : N1) => Run Try.prog (nilSem t18) w11 k7) w11 fun t19 w12 =>
  GuardP t16 true (fun (k8 : N1) => Run Try.prog (Instr.fieldAt 54 t19 2) w12 k8) w12 fun t20 w13 =>
  GuardP t16 true (fun (k9 : N1) => Run Try.prog (Instr.loadAt 40 t20) w13 k9) w13 fun t21 w14 =>
  GuardP t16 true (fun (k10 : N1) => GoN Try.prog (callFunc 33 #[t21]) w14 k10) w14 fun t22 w15 =>
  PickP t16 t22 (Go.Value.bool false) w15 fun t23 w16 =>
  GuardP t23 true (fun (k11 : N1) => k11 b_0 w16) w16 fun t25 w17 =>
  GuardP t23 true (fun (k12 : N1) => Run Try.prog (nilSem t25) w17 k12) w17 fun t26 w18 =>
  GuardP t23 true (fun (k13 : N1) => Run Try.prog (Instr.fieldAt 54 t26 3) w18 k13) w18 fun t27 w19 =>
  GuardP t23 true (fun (k14 : N1) => Run Try.prog (Instr.loadAt 41 t27) w19 k14) w19 fun t28 w20 =>
  GuardP t23 true (fun (k15 : N1) => GoN Try.prog (callFunc 34 #[t28]) w20 k15) w20 fun t29 w21 =>
  PickP t23 t29 (Go.Value.bool false) w21 fun t30 w22 =>
  GuardP t30 true (fun (k16 : N1) => k16 b_0 w22) w22 fun t32 w23 =>
  GuardP t30 true (fun (k17 : N1) => Run Try.prog (nilSem t32) w23 k17) w23 fun t33 w24 =>
  GuardP t30 true (fun (k18 : N1) => Run Try.prog (Instr.fieldAt 54 t33 4) w24 k18) w24 fun t34 w25 =>
  GuardP t30 true (fun (k19 : N1) => Run Try.prog (Instr.loadAt 42 t34) w25 k19) w25 fun t35 w26 =>
  GuardP t30 true (fun (k20 : N1) => GoN Try.prog (callFunc 35 #[t35]) w26 k20) w26 fun t36 w27 =>
  PickP t30 t36 (Go.Value.bool false) w27 fun t37 w28 =>
  GuardP t37 true (fun (k21 : N1) => k21 b_0 w28) w28 fun t39 w29 =>
  GuardP t37 true (fun (k22 : N1) => Run Try.prog (nilSem t39) w29 k22) w29 fun t40 w30 =>
  GuardP t37 true (fun (k23 : N1) => Run Try.prog (Instr.fieldAt 54 t40 5) w30 k23) w30 fun t41 w31 =>
  GuardP t37 true (fun (k24 : N1) => Run Try.prog (Instr.loadAt 43 t41) w31 k24) w31 fun t42 w32 =>
  GuardP t37 true (fun (k25 : N1) => GoN Try.prog (callFunc 36 #[t42]) w32 k25) w32 fun t43 w33 =>
  PickP t37 t43 (Go.Value.bool false) w33 fun t44 w34 =>
  GuardP t44 true (fun (k26 : N1) => k26 b_0 w34) w34 fun t46 w35 =>
  GuardP t44 true (fun (k27 : N1) => Run Try.prog (nilSem t46) w35 k27) w35 fun t47 w36 =>
  GuardP t44 true (fun (k28 : N1) => Run Try.prog (Instr.fieldAt 54 t47 6) w36 k28) w36 fun t48 w37 =>
  GuardP t44 true (fun (k29 : N1) => Run Try.prog (Instr.loadAt 44 t48) w37 k29) w37 fun t49 w38 =>
  GuardP t44 true (fun (k30 : N1) => GoN Try.prog (callFunc 37 #[t49]) w38 k30) w38 fun t50 w39 =>
  PickP t44 t50 (Go.Value.bool false) w39 fun t51 w40 =>
  GuardP t51 true (fun (k31 : N1) => k31 b_0 w40) w40 fun t53 w41 =>
  GuardP t51 true (fun (k32 : N1) => Run Try.prog (nilSem t53) w41 k32) w41 fun t54 w42 =>
  GuardP t51 true (fun (k33 : N1) => Run Try.prog (Instr.fieldAt 54 t54 7) w42 k33) w42 fun t55 w43 =>
  GuardP t51 true (fun (k34 : N1) => Run Try.prog (Instr.loadAt 45 t55) w43 k34) w43 fun t56 w44 =>
  GuardP t51 true (fun (k35 : N1) => GoN Try.prog (callFunc 38 #[t56]) w44 k35) w44 fun t57 w45 =>
  PickP t51 t57 (Go.Value.bool false) w45 fun t58 w46 =>
  GuardP t58 true (fun (k36 : N1) => k36 b_0 w46) w46 fun t60 w47 =>
  GuardP t58 true (fun (k37 : N1) => Run Try.prog (nilSem t60) w47 k37) w47 fun t61 w48 =>
  GuardP t58 true (fun (k38 : N1) => Run Try.prog (Instr.fieldAt 54 t61 8) w48 k38) w48 fun t62 w49 =>
  GuardP t58 true (fun (k39 : N1) => Run Try.prog (Instr.loadAt 46 t62) w49 k39) w49 fun t63 w50 =>
  GuardP t58 true (fun (k40 : N1) => GoN Try.prog (callFunc 39 #[t63]) w50 k40) w50 fun t64 w51 =>
  PickP t58 t64 (Go.Value.bool false) w51 fun t65 w52 =>
  GuardP t65 true (fun (k41 : N1) => k41 b_0 w52) w52 fun t67 w53 =>
  GuardP t65 true (fun (k42 : N1) => Run Try.prog (nilSem t67) w53 k42) w53 fun t68 w54 =>
  GuardP t65 true (fun (k43 : N1) => Run Try.prog (Instr.fieldAt 54 t68 9) w54 k43) w54 fun t69 w55 =>
  GuardP t65 true (fun (k44 : N1) => Run Try.prog (Instr.loadAt 47 t69) w55 k44) w55 fun t70 w56 =>
  GuardP t65 true (fun (k45 : N1) => GoN Try.prog (callFunc 40 #[t70]) w56 k45) w56 fun t71 w57 =>
  PickP t65 t71 (Go.Value.bool false) w57 fun t72 w58 =>
  Run Try.prog (nilSem b_0) w58 fun t74 w59 =>
  Run Try.prog (Instr.fieldAt 54 t74 10) w59 fun t75 w60 =>
  Run Try.prog (Instr.loadAt 48 t75) w60 fun t76 w61 =>
  GoN Try.prog (callFunc 41 #[t76]) w61 fun t77 w62 =>
  GuardP t77 true (fun (k46 : N1) => k46 b_0 w62) w62 fun t79 w63 =>
  GuardP t77 true (fun (k47 : N1) => Run Try.prog (nilSem t79) w63 k47) w63 fun t80 w64 =>
  GuardP t77 true (fun (k48 : N1) => Run Try.prog (Instr.fieldAt 54 t80 11) w64 k48) w64 fun t81 w65 =>
  GuardP t77 true (fun (k49 : N1) => Run Try.prog (Instr.loadAt 49 t81) w65 k49) w65 fun t82 w66 =>
  GuardP t77 true (fun (k50 : N1) => GoN Try.prog (callFunc 42 #[t82]) w66 k50) w66 fun t83 w67 =>
  PickP t77 t83 (Go.Value.bool false) w67 fun t84 w68 =>
  GuardP t84 true (fun (k51 : N1) => k51 b_0 w68) w68 fun t86 w69 =>
  GuardP t84 true (fun (k52 : N1) => Run Try.prog (nilSem t86) w69 k52) w69 fun t87 w70 =>
  GuardP t84 true (fun (k53 : N1) => Run Try.prog (Instr.fieldAt 54 t87 12) w70 k53) w70 fun t88 w71 =>
  GuardP t84 true (fun (k54 : N1) => Run Try.prog (Instr.loadAt 50 t88) w71 k54) w71 fun t89 w72 =>
  GuardP t84 true (fun (k55 : N1) => GoN Try.prog (callFunc 43 #[t89]) w72 k55) w72 fun t90 w73 =>
  PickP t84 t90 (Go.Value.bool false) w73 fun t91 w74 =>
  GuardP t91 true (fun (k56 : N1) => k56 b_0 w74) w74 fun t93 w75 =>
  GuardP t91 true (fun (k57 : N1) => Run Try.prog (nilSem t93) w75 k57) w75 fun t94 w76 =>
  GuardP t91 true (fun (k58 : N1) => Run Try.prog (Instr.fieldAt 54 t94 13) w76 k58) w76 fun t95 w77 =>
  GuardP t91 true (fun (k59 : N1) => Run Try.prog (Instr.loadAt 51 t95) w77 k59) w77 fun t96 w78 =>
  GuardP t91 true (fun (k60 : N1) => GoN Try.prog (callFunc 44 #[t96]) w78 k60) w78 fun t97 w79 =>
  PickP t91 t97 (Go.Value.bool false) w79 fun t98 w80 =>
  GuardP t98 true (fun (k61 : N1) => k61 b_0 w80) w80 fun t100 w81 =>
  GuardP t98 true (fun (k62 : N1) => Run Try.prog (nilSem t100) w81 k62) w81 fun t101 w82 =>
  GuardP t98 true (fun (k63 : N1) => Run Try.prog (Instr.fieldAt 54 t101 14) w82 k63) w82 fun t102 w83 =>
  GuardP t98 true (fun (k64 : N1) => Run Try.prog (Instr.loadAt 52 t102) w83 k64) w83 fun t103 w84 =>
  GuardP t98 true (fun (k65 : N1) => GoN Try.prog (callFunc 45 #[t103]) w84 k65) w84 fun t104 w85 =>
  PickP t98 t104 (Go.Value.bool false) w85 fun t105 w86 =>
  GuardP t72 true (fun (k66 : N1) => k66 t105 w86) w86 fun t108 w87 =>
  PickP t72 t108 (Go.Value.bool false) w87 fun t109 w88 =>
  R t109 w88
theorem S10_eq (b_0 : Value) (w : World) (R : Value → World → Prop) : vcFn Try.prog Try.f10 [b_0] w R = S10 b_0 w R := by kernel_rfl
theorem D10 {b_0 : Value} {w : World} {R : Value → World → Prop} (h : S10 b_0 w R) : Does Try.prog 10 [b_0] w R :=
  does_of_vc mixed Try.func10 (by kernel_rfl) (by kernel_rfl) ((S10_eq b_0 w R).mpr h)

/-- busbar/busbarref05.Find -/
def S11 (l_0 name_1 : Value) (w : World) (R : Value → World → Prop) : Prop :=
  Run Try.prog (Instr.alloc 62 true (.tuple #[])) w fun t4 w1 =>
  JoinP 2 (fun (k1 : N2) =>
    LoopP 2 (fun (k2 : N2) => (fun (t5 : Value) (i_6 : Value) (w2 : World) => 
      Run Try.prog (Builtin.len_ #[29] 3 #[l_0]) w2 fun t9 w3 =>
      Run Try.prog (binSem Go.BinOp.lss 3 (Go.Operand.tmp 7) (Go.Operand.tmp 9) i_6 t9) w3 fun t10 w4 =>
      CondP t10 0 (fun (k3 : N0) =>
        k3 w4)
      (fun (k4 : N0) =>
        k1 t5 i_6 w4)
      (fun (w5 : World) => 
      JoinP 1 (fun (k5 : N1) =>
        Run Try.prog (Instr.indexAt 29 l_0 i_6) w5 fun t15 w6 =>
        Run Try.prog (Instr.fieldAt 62 t15 3) w6 fun t16 w7 =>
        Run Try.prog (Instr.loadAt 9 t16) w7 fun t17 w8 =>
        Run Try.prog (binSem Go.BinOp.eql 9 (Go.Operand.tmp 17) (Go.Operand.tmp 18) t17 name_1) w8 fun t19 w9 =>
        CondP t19 1 (fun (k6 : N1) =>
          Run Try.prog (Instr.indexAt 29 l_0 i_6) w9 fun t22 w10 =>
          Run Try.prog (Instr.loadAt 62 t22) w10 fun t23 w11 =>
          RunU Try.prog (Instr.storeAt 62 t4 t23) w11 fun w12 =>
          resK Try.prog t4 62 w12 fun r0 =>
          R (.tuple #[r0, (Go.Value.bool true)]) w12)
        (fun (k7 : N1) =>
          k7 t5 w9)
        (fun (t5 : Value) (w13 : World) => 
        k5 t5 w13))
      (fun (t5 : Value) (w14 : World) => 
      Run Try.prog (binSem Go.BinOp.add 3 (Go.Operand.tmp 11) (Go.Operand.const (Go.Value.int Go.IntKind.i64 1)) i_6 (Go.Value.int Go.IntKind.i64 1)) w14 fun t12 w15 =>
      k2 t5 t12 w15))))
    [(Go.Value.bool false), (Go.Value.int Go.IntKind.i64 0)] w1)
  (fun (t5 : Value) (i_6 : Value) (w16 : World) => 
  Run Try.prog (Instr.build 62 #[]) w16 fun t24 w17 =>
  RunU Try.prog (Instr.storeAt 62 t4 t24) w17 fun w18 =>
  resK Try.prog t4 62 w18 fun r0 =>
  R (.tuple #[r0, (Go.Value.bool false)]) w18)
theorem S11_eq (l_0 name_1 : Value) (w : World) (R : Value → World → Prop) : vcFn Try.prog Try.f11 [l_0, name_1] w R = S11 l_0 name_1 w R := by kernel_rfl
theorem D11 {l_0 name_1 : Value} {w : World} {R : Value → World → Prop} (h : S11 l_0 name_1 w R) : Does Try.prog 11 [l_0, name_1] w R :=
  does_of_vc mixed Try.func11 (by kernel_rfl) (by kernel_rfl) ((S11_eq l_0 name_1 w R).mpr h)

/-- busbar/node.Find -/
def S12 (l_0 name_1 : Value) (w : World) (R : Value → World → Prop) : Prop :=
  Run Try.prog (Instr.alloc 62 true (.tuple #[])) w fun t4 w1 =>
  Run Try.prog (Builtin.len_ #[34] 3 #[l_0]) w1 fun t11 w2 =>
  JoinP 2 (fun (k1 : N2) =>
    LoopP 2 (fun (k2 : N2) => (fun (t5 : Value) (t12 : Value) (w3 : World) => 
      Run Try.prog (binSem Go.BinOp.lss 3 (Go.Operand.tmp 12) (Go.Operand.tmp 11) t12 t11) w3 fun t13 w4 =>
      CondP t13 0 (fun (k3 : N0) =>
        k3 w4)
      (fun (k4 : N0) =>
        k1 t5 t12 w4)
      (fun (w5 : World) => 
      JoinP 1 (fun (k5 : N1) =>
        Run Try.prog (Instr.indexAt 34 l_0 t12) w5 fun t14 w6 =>
        Run Try.prog (Instr.loadAt 70 t14) w6 fun t15 w7 =>
        Run Try.prog (Instr.typeAssert t15 70 62 true) w7 fun t18 w8 =>
        Run Try.prog (Instr.extract t18 0) w8 fun t19 w9 =>
        Run Try.prog (Instr.extract t18 1) w9 fun t20 w10 =>
        Run Try.prog (Instr.alloc 62 true (.tuple #[])) w10 fun m_8 w11 =>
        RunU Try.prog (Instr.storeAt 62 m_8 t19) w11 fun w12 =>
        GuardP t20 true (fun (k6 : N1) => Run Try.prog (Instr.fieldAt 62 m_8 3) w12 k6) w12 fun t23 w13 =>
        GuardP t20 true (fun (k7 : N1) => Run Try.prog (Instr.loadAt 9 t23) w13 k7) w13 fun t24 w14 =>
        GuardP t20 true (fun (k8 : N1) => k8 name_1 w14) w14 fun t25 w15 =>
        GuardP t20 true (fun (k9 : N1) => Run Try.prog (binSem Go.BinOp.eql 9 (Go.Operand.tmp 24) (Go.Operand.tmp 25) t24 t25) w15 k9) w15 fun t26 w16 =>
        PickP t20 t26 (Go.Value.bool false) w16 fun t27 w17 =>
        CondP t27 1 (fun (k10 : N1) =>
          Run Try.prog (Instr.loadAt 62 m_8) w17 fun t28 w18 =>
          GoN Try.prog (callFunc 21 #[t28]) w18 fun t29 w19 =>
          RunU Try.prog (Instr.storeAt 62 t4 t29) w19 fun w20 =>
          resK Try.prog t4 62 w20 fun r0 =>
          R (.tuple #[r0, (Go.Value.bool true)]) w20)
        (fun (k11 : N1) =>
          k11 t5 w17)
        (fun (t5 : Value) (w21 : World) => 
        k5 t5 w21))
      (fun (t5 : Value) (w22 : World) => 
      Run Try.prog (binSem Go.BinOp.add 3 (Go.Operand.tmp 12) (Go.Operand.const (Go.Value.int Go.IntKind.i64 1)) t12 (Go.Value.int Go.IntKind.i64 1)) w22 fun t30 w23 =>
      k2 t5 t30 w23))))
    [(Go.Value.bool false), (Go.Value.int Go.IntKind.i64 0)] w2)
  (fun (t5 : Value) (t12 : Value) (w24 : World) => 
  Run Try.prog (Instr.build 62 #[]) w24 fun t31 w25 =>
  RunU Try.prog (Instr.storeAt 62 t4 t31) w25 fun w26 =>
  resK Try.prog t4 62 w26 fun r0 =>
  R (.tuple #[r0, (Go.Value.bool false)]) w26)
theorem S12_eq (l_0 name_1 : Value) (w : World) (R : Value → World → Prop) : vcFn Try.prog Try.f12 [l_0, name_1] w R = S12 l_0 name_1 w R := by kernel_rfl
theorem D12 {l_0 name_1 : Value} {w : World} {R : Value → World → Prop} (h : S12 l_0 name_1 w R) : Does Try.prog 12 [l_0, name_1] w R :=
  does_of_vc mixed Try.func12 (by kernel_rfl) (by kernel_rfl) ((S12_eq l_0 name_1 w R).mpr h)

/-- busbar/busbarref0.SameMessage -/
def S13 (a_0 b_1 : Value) (w : World) (R : Value → World → Prop) : Prop :=
  Run Try.prog (Instr.box 62 a_0) w fun a_2 w1 =>
  Run Try.prog (Instr.box 62 b_1) w1 fun b_3 w2 =>
  Run Try.prog (Instr.fieldAt 62 a_2 0) w2 fun t5 w3 =>
  Run Try.prog (Instr.loadAt 23 t5) w3 fun t6 w4 =>
  Run Try.prog (Instr.fieldAt 62 b_3 0) w4 fun t7 w5 =>
  Run Try.prog (Instr.loadAt 23 t7) w5 fun t8 w6 =>
  Run Try.prog (binSem Go.BinOp.eql 23 (Go.Operand.tmp 6) (Go.Operand.tmp 8) t6 t8) w6 fun t9 w7 =>
  GuardP t9 true (fun (k1 : N1) => Run Try.prog (Instr.fieldAt 62 a_2 1) w7 k1) w7 fun t11 w8 =>
  GuardP t9 true (fun (k2 : N1) => Run Try.prog (Instr.loadAt 59 t11) w8 k2) w8 fun t12 w9 =>
  GuardP t9 true (fun (k3 : N1) => Run Try.prog (Instr.fieldAt 62 b_3 1) w9 k3) w9 fun t13 w10 =>
  GuardP t9 true (fun (k4 : N1) => Run Try.prog (Instr.loadAt 59 t13) w10 k4) w10 fun t14 w11 =>
  GuardP t9 true (fun (k5 : N1) => Run Try.prog (binSem Go.BinOp.eql 59 (Go.Operand.tmp 12) (Go.Operand.tmp 14) t12 t14) w11 k5) w11 fun t15 w12 =>
  PickP t9 t15 (Go.Value.bool false) w12 fun t16 w13 =>
  GuardP t16 true (fun (k6 : N1) => Run Try.prog (Instr.fieldAt 62 a_2 2) w13 k6) w13 fun t18 w14 =>
  GuardP t16 true (fun (k7 : N1) => Run Try.prog (Instr.loadAt 4 t18) w14 k7) w14 fun t19 w15 =>
  GuardP t16 true (fun (k8 : N1) => Run Try.prog (Instr.fieldAt 62 b_3 2) w15 k8) w15 fun t20 w16 =>
  GuardP t16 true (fun (k9 : N1) => Run Try.prog (Instr.loadAt 4 t20) w16 k9) w16 fun t21 w17 =>
  GuardP t16 true (fun (k10 : N1) => Run Try.prog (binSem Go.BinOp.eql 4 (Go.Operand.tmp 19) (Go.Operand.tmp 21) t19 t21) w17 k10) w17 fun t22 w18 =>
  PickP t16 t22 (Go.Value.bool false) w18 fun t23 w19 =>
  GuardP t23 true (fun (k11 : N1) => Run Try.prog (Instr.fieldAt 62 a_2 3) w19 k11) w19 fun t25 w20 =>
  GuardP t23 true (fun (k12 : N1) => Run Try.prog (Instr.loadAt 9 t25) w20 k12) w20 fun t26 w21 =>
  GuardP t23 true (fun (k13 : N1) => Run Try.prog (Instr.fieldAt 62 b_3 3) w21 k13) w21 fun t27 w22 =>
  GuardP t23 true (fun (k14 : N1) => Run Try.prog (Instr.loadAt 9 t27) w22 k14) w22 fun t28 w23 =>
  GuardP t23 true (fun (k15 : N1) => Run Try.prog (binSem Go.BinOp.eql 9 (Go.Operand.tmp 26) (Go.Operand.tmp 28) t26 t28) w23 k15) w23 fun t29 w24 =>
  PickP t23 t29 (Go.Value.bool false) w24 fun t30 w25 =>
  GuardP t30 true (fun (k16 : N1) => Run Try.prog (Instr.fieldAt 62 a_2 4) w25 k16) w25 fun t32 w26 =>
  GuardP t30 true (fun (k17 : N1) => Run Try.prog (Instr.loadAt 3 t32) w26 k17) w26 fun t33 w27 =>
  GuardP t30 true (fun (k18 : N1) => Run Try.prog (Instr.fieldAt 62 b_3 4) w27 k18) w27 fun t34 w28 =>
  GuardP t30 true (fun (k19 : N1) => Run Try.prog (Instr.loadAt 3 t34) w28 k19) w28 fun t35 w29 =>
  GuardP t30 true (fun (k20 : N1) => Run Try.prog (binSem Go.BinOp.eql 3 (Go.Operand.tmp 33) (Go.Operand.tmp 35) t33 t35) w29 k20) w29 fun t36 w30 =>
  PickP t30 t36 (Go.Value.bool false) w30 fun t37 w31 =>
  GuardP t37 true (fun (k21 : N1) => Run Try.prog (Instr.fieldAt 62 a_2 5) w31 k21) w31 fun t39 w32 =>
  GuardP t37 true (fun (k22 : N1) => Run Try.prog (Instr.loadAt 9 t39) w32 k22) w32 fun t40 w33 =>
  GuardP t37 true (fun (k23 : N1) => Run Try.prog (Instr.fieldAt 62 b_3 5) w33 k23) w33 fun t41 w34 =>
  GuardP t37 true (fun (k24 : N1) => Run Try.prog (Instr.loadAt 9 t41) w34 k24) w34 fun t42 w35 =>
  GuardP t37 true (fun (k25 : N1) => Run Try.prog (binSem Go.BinOp.eql 9 (Go.Operand.tmp 40) (Go.Operand.tmp 42) t40 t42) w35 k25) w35 fun t43 w36 =>
  PickP t37 t43 (Go.Value.bool false) w36 fun t44 w37 =>
  GuardP t44 true (fun (k26 : N1) => Run Try.prog (Instr.fieldAt 62 a_2 6) w37 k26) w37 fun t46 w38 =>
  GuardP t44 true (fun (k27 : N1) => Run Try.prog (Instr.loadAt 60 t46) w38 k27) w38 fun t47 w39 =>
  GuardP t44 true (fun (k28 : N1) => Run Try.prog (Instr.fieldAt 62 b_3 6) w39 k28) w39 fun t48 w40 =>
  GuardP t44 true (fun (k29 : N1) => Run Try.prog (Instr.loadAt 60 t48) w40 k29) w40 fun t49 w41 =>
  GuardP t44 true (fun (k30 : N1) => GoN Try.prog (callFunc 46 #[t47, t49]) w41 k30) w41 fun t50 w42 =>
  PickP t44 t50 (Go.Value.bool false) w42 fun t51 w43 =>
  R t51 w43
theorem S13_eq (a_0 b_1 : Value) (w : World) (R : Value → World → Prop) : vcFn Try.prog Try.f13 [a_0, b_1] w R = S13 a_0 b_1 w R := by kernel_rfl
theorem D13 {a_0 b_1 : Value} {w : World} {R : Value → World → Prop} (h : S13 a_0 b_1 w R) : Does Try.prog 13 [a_0, b_1] w R :=
  does_of_vc mixed Try.func13 (by kernel_rfl) (by kernel_rfl) ((S13_eq a_0 b_1 w R).mpr h)

/-- (*busbar/busbarkit.Book).Message -/
def S14 (b_0 s_1 : Value) (w : World) (R : Value → World → Prop) : Prop :=
  Run Try.prog (Instr.box 62 s_1) w fun s_3 w1 =>
  Run Try.prog (Instr.fieldAt 62 s_3 6) w1 fun t5 w2 =>
  Run Try.prog (Instr.loadAt 60 t5) w2 fun t6 w3 =>
  GoN Try.prog (callFunc 47 #[b_0, t6]) w3 fun t7 w4 =>
  R (.tuple #[]) w4
theorem S14_eq (b_0 s_1 : Value) (w : World) (R : Value → World → Prop) : vcFn Try.prog Try.f14 [b_0, s_1] w R = S14 b_0 s_1 w R := by kernel_rfl
theorem D14 {b_0 s_1 : Value} {w : World} {R : Value → World → Prop} (h : S14 b_0 s_1 w R) : Does Try.prog 14 [b_0, s_1] w R :=
  does_of_vc mixed Try.func14 (by kernel_rfl) (by kernel_rfl) ((S14_eq b_0 s_1 w R).mpr h)

/-- busbar/node.Kind -/
def S15 (n_0 : Value) (w : World) (R : Value → World → Prop) : Prop :=
  GoN Try.prog (callFunc 48 #[n_0]) w fun t4 w1 =>
  Run Try.prog (Instr.field 111 t4 1) w1 fun t5 w2 =>
  R t5 w2
theorem S15_eq (n_0 : Value) (w : World) (R : Value → World → Prop) : vcFn Try.prog Try.f15 [n_0] w R = S15 n_0 w R := by kernel_rfl
theorem D15 {n_0 : Value} {w : World} {R : Value → World → Prop} (h : S15 n_0 w R) : Does Try.prog 15 [n_0] w R :=
  does_of_vc mixed Try.func15 (by kernel_rfl) (by kernel_rfl) ((S15_eq n_0 w R).mpr h)

/-- busbar/node.Message -/
def S16 (n_0 : Value) (w : World) (R : Value → World → Prop) : Prop :=
  Run Try.prog (Instr.alloc 62 true (.tuple #[])) w fun t2 w1 =>
  Run Try.prog (Instr.typeAssert n_0 70 62 false) w1 fun t4 w2 =>
  GoN Try.prog (callFunc 21 #[t4]) w2 fun t5 w3 =>
  RunU Try.prog (Instr.storeAt 62 t2 t5) w3 fun w4 =>
  resK Try.prog t2 62 w4 fun r0 =>
  R r0 w4
theorem S16_eq (n_0 : Value) (w : World) (R : Value → World → Prop) : vcFn Try.prog Try.f16 [n_0] w R = S16 n_0 w R := by kernel_rfl
theorem D16 {n_0 : Value} {w : World} {R : Value → World → Prop} (h : S16 n_0 w R) : Does Try.prog 16 [n_0] w R :=
  does_of_vc mixed Try.func16 (by kernel_rfl) (by kernel_rfl) ((S16_eq n_0 w R).mpr h)

/-- busbar/busbarkit.LentMessages -/
def S17 (l_0 : Value) (w : World) (R : Value → World → Prop) : Prop :=
  JoinP 2 (fun (k1 : N2) =>
    LoopP 2 (fun (k2 : N2) => (fun (out_3 : Value) (i_4 : Value) (w1 : World) => 
      Run Try.prog (Builtin.len_ #[29] 3 #[l_0]) w1 fun t9 w2 =>
      Run Try.prog (binSem Go.BinOp.lss 3 (Go.Operand.tmp 7) (Go.Operand.tmp 9) i_4 t9) w2 fun t10 w3 =>
      CondP t10 0 (fun (k3 : N0) =>
        k3 w3)
      (fun (k4 : N0) =>
        k1 out_3 i_4 w3)
      (fun (w4 : World) => 
      JoinP 1 (fun (k5 : N1) =>
        Run Try.prog (Instr.indexAt 29 l_0 i_4) w4 fun t15 w5 =>
        Run Try.prog (Instr.loadAt 62 t15) w5 fun t16 w6 =>
        GoN Try.prog (callFunc 49 #[t16]) w6 fun t17 w7 =>
        Run Try.prog (Instr.alloc 62 true (.tuple #[])) w7 fun x_5 w8 =>
        RunU Try.prog (Instr.storeAt 62 x_5 t17) w8 fun w9 =>
        Run Try.prog (Instr.loadAt 62 x_5) w9 fun t19 w10 =>
        Run Try.prog (Instr.buildSlice 29 1 #[(0, t19)]) w10 fun t20 w11 =>
        Run Try.prog (Builtin.append_ #[29, 29] 29 #[out_3, t20]) w11 fun t21 w12 =>
        k5 t21 w12)
      (fun (out_3 : Value) (w13 : World) => 
      Run Try.prog (binSem Go.BinOp.add 3 (Go.Operand.tmp 11) (Go.Operand.const (Go.Value.int Go.IntKind.i64 1)) i_4 (Go.Value.int Go.IntKind.i64 1)) w13 fun t12 w14 =>
      k2 out_3 t12 w14))))
    [(Go.Value.slice none 0 0), (Go.Value.int Go.IntKind.i64 0)] w)
  (fun (out_3 : Value) (i_4 : Value) (w15 : World) => 
  JoinP 2 (fun (k6 : N2) =>
    LoopP 2 (fun (k7 : N2) => (fun (out_3 : Value) (i_6 : Value) (w16 : World) => 
      Run Try.prog (binSem Go.BinOp.lss 3 (Go.Operand.tmp 22) (Go.Operand.const (Go.Value.int Go.IntKind.i64 16)) i_6 (Go.Value.int Go.IntKind.i64 16)) w16 fun t23 w17 =>
      CondP t23 0 (fun (k8 : N0) =>
        k8 w17)
      (fun (k9 : N0) =>
        k6 out_3 i_6 w17)
      (fun (w18 : World) => 
      JoinP 1 (fun (k10 : N1) =>
        Run Try.prog (Instr.build 62 #[(4, (Go.Value.int Go.IntKind.i64 (-7)))]) w18 fun t27 w19 =>
        Run Try.prog (Instr.buildSlice 29 1 #[(0, t27)]) w19 fun t28 w20 =>
        Run Try.prog (Builtin.append_ #[29, 29] 29 #[out_3, t28]) w20 fun t29 w21 =>
        k10 t29 w21)
      (fun (out_3 : Value) (w22 : World) => 
      Run Try.prog (binSem Go.BinOp.add 3 (Go.Operand.tmp 24) (Go.Operand.const (Go.Value.int Go.IntKind.i64 1)) i_6 (Go.Value.int Go.IntKind.i64 1)) w22 fun t25 w23 =>
      k7 out_3 t25 w23))))
    [out_3, (Go.Value.int Go.IntKind.i64 0)] w15)
  (fun (out_3 : Value) (i_6 : Value) (w24 : World) => 
  Run Try.prog (Builtin.len_ #[29] 3 #[l_0]) w24 fun t32 w25 =>
  Run Try.prog (Instr.sliceAt 29 out_3 none (some t32) none) w25 fun t33 w26 =>
  R t33 w26))
theorem S17_eq (l_0 : Value) (w : World) (R : Value → World → Prop) : vcFn Try.prog Try.f17 [l_0] w R = S17 l_0 w R := by kernel_rfl
theorem D17 {l_0 : Value} {w : World} {R : Value → World → Prop} (h : S17 l_0 w R) : Does Try.prog 17 [l_0] w R :=
  does_of_vc mixed Try.func17 (by kernel_rfl) (by kernel_rfl) ((S17_eq l_0 w R).mpr h)

/-- busbar/busbarkit.LentTables -/
def S18 (l_0 : Value) (w : World) (R : Value → World → Prop) : Prop :=
  JoinP 2 (fun (k1 : N2) =>
    LoopP 2 (fun (k2 : N2) => (fun (out_3 : Value) (i_4 : Value) (w1 : World) => 
      Run Try.prog (Builtin.len_ #[30] 3 #[l_0]) w1 fun t9 w2 =>
      Run Try.prog (binSem Go.BinOp.lss 3 (Go.Operand.tmp 7) (Go.Operand.tmp 9) i_4 t9) w2 fun t10 w3 =>
      CondP t10 0 (fun (k3 : N0) =>
        k3 w3)
      (fun (k4 : N0) =>
        k1 out_3 i_4 w3)
      (fun (w4 : World) => 
      JoinP 1 (fun (k5 : N1) =>
        Run Try.prog (Instr.indexAt 30 l_0 i_4) w4 fun t15 w5 =>
        Run Try.prog (Instr.loadAt 79 t15) w5 fun t16 w6 =>
        GoN Try.prog (callFunc 50 #[t16]) w6 fun t17 w7 =>
        Run Try.prog (Instr.alloc 79 true (.tuple #[])) w7 fun x_5 w8 =>
        RunU Try.prog (Instr.storeAt 79 x_5 t17) w8 fun w9 =>
        Run Try.prog (Instr.loadAt 79 x_5) w9 fun t19 w10 =>
        Run Try.prog (Instr.buildSlice 30 1 #[(0, t19)]) w10 fun t20 w11 =>
        Run Try.prog (Builtin.append_ #[30, 30] 30 #[out_3, t20]) w11 fun t21 w12 =>
        k5 t21 w12)
      (fun (out_3 : Value) (w13 : World) => 
      Run Try.prog (binSem Go.BinOp.add 3 (Go.Operand.tmp 11) (Go.Operand.const (Go.Value.int Go.IntKind.i64 1)) i_4 (Go.Value.int Go.IntKind.i64 1)) w13 fun t12 w14 =>
      k2 out_3 t12 w14))))
    [(Go.Value.slice none 0 0), (Go.Value.int Go.IntKind.i64 0)] w)
  (fun (out_3 : Value) (i_4 : Value) (w15 : World) => 
  JoinP 2 (fun (k6 : N2) =>
    LoopP 2 (fun (k7 : N2) => (fun (out_3 : Value) (i_6 : Value) (w16 : World) => 
      Run Try.prog (binSem Go.BinOp.lss 3 (Go.Operand.tmp 22) (Go.Operand.const (Go.Value.int Go.IntKind.i64 16)) i_6 (Go.Value.int Go.IntKind.i64 16)) w16 fun t23 w17 =>
      CondP t23 0 (fun (k8 : N0) =>
        k8 w17)
      (fun (k9 : N0) =>
        k6 out_3 i_6 w17)
      (fun (w18 : World) => 
      JoinP 1 (fun (k10 : N1) =>
        Run Try.prog (Instr.build 79 #[(3, (Go.Value.string { data := #[115, 112, 97, 114, 101] }))]) w18 fun t27 w19 =>
        Run Try.prog (Instr.buildSlice 30 1 #[(0, t27)]) w19 fun t28 w20 =>
        Run Try.prog (Builtin.append_ #[30, 30] 30 #[out_3, t28]) w20 fun t29 w21 =>
        k10 t29 w21)
      (fun (out_3 : Value) (w22 : World) => 
      Run Try.prog (binSem Go.BinOp.add 3 (Go.Operand.tmp 24) (Go.Operand.const (Go.Value.int Go.IntKind.i64 1)) i_6 (Go.Value.int Go.IntKind.i64 1)) w22 fun t25 w23 =>
      k7 out_3 t25 w23))))
    [out_3, (Go.Value.int Go.IntKind.i64 0)] w15)
  (fun (out_3 : Value) (i_6 : Value) (w24 : World) => 
  Run Try.prog (Builtin.len_ #[30] 3 #[l_0]) w24 fun t32 w25 =>
  Run Try.prog (Instr.sliceAt 30 out_3 none (some t32) none) w25 fun t33 w26 =>
  R t33 w26))
theorem S18_eq (l_0 : Value) (w : World) (R : Value → World → Prop) : vcFn Try.prog Try.f18 [l_0] w R = S18 l_0 w R := by kernel_rfl
theorem D18 {l_0 : Value} {w : World} {R : Value → World → Prop} (h : S18 l_0 w R) : Does Try.prog 18 [l_0] w R :=
  does_of_vc mixed Try.func18 (by kernel_rfl) (by kernel_rfl) ((S18_eq l_0 w R).mpr h)

/-- busbar/busbarkit.LentStations -/
def S19 (s_0 : Value) (w : World) (R : Value → World → Prop) : Prop :=
  Run Try.prog (Instr.box 28 s_0) w fun s_1 w1 =>
  Run Try.prog (Instr.alloc 28 true (.tuple #[])) w1 fun t2 w2 =>
  Run Try.prog (Instr.loadAt 28 s_1) w2 fun t4 w3 =>
  Run Try.prog (Instr.alloc 28 true (.tuple #[])) w3 fun x_3 w4 =>
  RunU Try.prog (Instr.storeAt 28 x_3 t4) w4 fun w5 =>
  Run Try.prog (Instr.fieldAt 28 s_1 1) w5 fun t5 w6 =>
  Run Try.prog (Instr.loadAt 26 t5) w6 fun t6 w7 =>
  GoN Try.prog (callFunc 51 #[t6]) w7 fun t7 w8 =>
  Run Try.prog (Instr.fieldAt 28 x_3 1) w8 fun t8 w9 =>
  RunU Try.prog (Instr.storeAt 26 t8 t7) w9 fun w10 =>
  Run Try.prog (Instr.loadAt 28 x_3) w10 fun t9 w11 =>
  RunU Try.prog (Instr.storeAt 28 t2 t9) w11 fun w12 =>
  resK Try.prog t2 28 w12 fun r0 =>
  R r0 w12
theorem S19_eq (s_0 : Value) (w : World) (R : Value → World → Prop) : vcFn Try.prog Try.f19 [s_0] w R = S19 s_0 w R := by kernel_rfl
theorem D19 {s_0 : Value} {w : World} {R : Value → World → Prop} (h : S19 s_0 w R) : Does Try.prog 19 [s_0] w R :=
  does_of_vc mixed Try.func19 (by kernel_rfl) (by kernel_rfl) ((S19_eq s_0 w R).mpr h)

/-- busbar/node.stations -/
def S20 (s_0 : Value) (w : World) (R : Value → World → Prop) : Prop :=
  Run Try.prog (Instr.box 28 s_0) w fun s_1 w1 =>
  Run Try.prog (Instr.alloc 28 true (.tuple #[])) w1 fun t2 w2 =>
  Run Try.prog (Instr.fieldAt 28 s_1 1) w2 fun t3 w3 =>
  Run Try.prog (Instr.loadAt 26 t3) w3 fun t4 w4 =>
  GoN Try.prog (callFunc 52 #[t4]) w4 fun t5 w5 =>
  Run Try.prog (Instr.fieldAt 28 s_1 1) w5 fun t6 w6 =>
  RunU Try.prog (Instr.storeAt 26 t6 t5) w6 fun w7 =>
  Run Try.prog (Instr.loadAt 28 s_1) w7 fun t7 w8 =>
  RunU Try.prog (Instr.storeAt 28 t2 t7) w8 fun w9 =>
  resK Try.prog t2 28 w9 fun r0 =>
  R r0 w9
theorem S20_eq (s_0 : Value) (w : World) (R : Value → World → Prop) : vcFn Try.prog Try.f20 [s_0] w R = S20 s_0 w R := by kernel_rfl
theorem D20 {s_0 : Value} {w : World} {R : Value → World → Prop} (h : S20 s_0 w R) : Does Try.prog 20 [s_0] w R :=
  does_of_vc mixed Try.func20 (by kernel_rfl) (by kernel_rfl) ((S20_eq s_0 w R).mpr h)

/-- busbar/node.message -/
def S21 (m_0 : Value) (w : World) (R : Value → World → Prop) : Prop :=
  Run Try.prog (Instr.box 62 m_0) w fun m_1 w1 =>
  Run Try.prog (Instr.alloc 62 true (.tuple #[])) w1 fun t2 w2 =>
  Run Try.prog (Instr.fieldAt 62 m_1 6) w2 fun t4 w3 =>
  Run Try.prog (Instr.loadAt 60 t4) w3 fun t5 w4 =>
  GoN Try.prog (callFunc 53 #[t5]) w4 fun t6 w5 =>
  Run Try.prog (Instr.fieldAt 62 m_1 6) w5 fun t7 w6 =>
  RunU Try.prog (Instr.storeAt 60 t7 t6) w6 fun w7 =>
  Run Try.prog (Instr.fieldAt 62 m_1 6) w7 fun t8 w8 =>
  Run Try.prog (Instr.loadAt 60 t8) w8 fun t9 w9 =>
  Run Try.prog (Builtin.len_ #[60] 3 #[t9]) w9 fun t10 w10 =>
  JoinP 1 (fun (k1 : N1) =>
    LoopP 1 (fun (k2 : N1) => (fun (t11 : Value) (w11 : World) => 
      Run Try.prog (binSem Go.BinOp.lss 3 (Go.Operand.tmp 11) (Go.Operand.tmp 10) t11 t10) w11 fun t12 w12 =>
      CondP t12 0 (fun (k3 : N0) =>
        k3 w12)
      (fun (k4 : N0) =>
        k1 t11 w12)
      (fun (w13 : World) => 
      JoinP 0 (fun (k5 : N0) =>
        ∀ w14, Ext w13 w14 →
        RunQ Try.prog (Instr.fieldAt 62 m_1 6) w14 fun t14 =>
        RunQ Try.prog (Instr.loadAt 60 t14) w14 fun t15 =>
        RunQ Try.prog (Instr.fieldAt 62 m_1 6) w14 fun t17 =>
        RunQ Try.prog (Instr.loadAt 60 t17) w14 fun t18 =>
        RunQ Try.prog (Instr.indexAt 60 t18 t11) w14 fun t20 =>
        RunQ Try.prog (Instr.fieldAt 119 t20 13) w14 fun t21 =>
        RunQ Try.prog (Instr.loadAt 26 t21) w14 fun t22 =>
        GoN Try.prog (callFunc 52 #[t22]) w14 fun t23 w15 => Ext w14 w15 ∧
        RunQ Try.prog (Instr.indexAt 60 t15 t11) w14 fun t24 =>
        RunQ Try.prog (Instr.fieldAt 119 t24 13) w14 fun t25 =>
        RunU Try.prog (Instr.storeAt 26 t25 t23) w15 fun w16 =>
        k5 w16)
      (fun (w17 : World) => 
      Run Try.prog (binSem Go.BinOp.add 3 (Go.Operand.tmp 11) (Go.Operand.const (Go.Value.int Go.IntKind.i64 1)) t11 (Go.Value.int Go.IntKind.i64 1)) w17 fun t26 w18 =>
      k2 t26 w18))))
    [(Go.Value.int Go.IntKind.i64 0)] w10)
  (fun (t11 : Value) (w19 : World) => 
  Run Try.prog (Instr.loadAt 62 m_1) w19 fun t27 w20 =>
  RunU Try.prog (Instr.storeAt 62 t2 t27) w20 fun w21 =>
  resK Try.prog t2 62 w21 fun r0 =>
  R r0 w21)
theorem S21_eq (m_0 : Value) (w : World) (R : Value → World → Prop) : vcFn Try.prog Try.f21 [m_0] w R = S21 m_0 w R := by kernel_rfl
theorem D21 {m_0 : Value} {w : World} {R : Value → World → Prop} (h : S21 m_0 w R) : Does Try.prog 21 [m_0] w R :=
  does_of_vc mixed Try.func21 (by kernel_rfl) (by kernel_rfl) ((S21_eq m_0 w R).mpr h)

/-- busbar/node.table -/
def S22 (t_0 : Value) (w : World) (R : Value → World → Prop) : Prop :=
  Run Try.prog (Instr.box 79 t_0) w fun t_1 w1 =>
  Run Try.prog (Instr.alloc 79 true (.tuple #[])) w1 fun t2 w2 =>
  Run Try.prog (Instr.fieldAt 79 t_1 4) w2 fun t3 w3 =>
  Run Try.prog (Instr.loadAt 77 t3) w3 fun t4 w4 =>
  GoN Try.prog (callFunc 54 #[t4]) w4 fun t5 w5 =>
  Run Try.prog (Instr.fieldAt 79 t_1 4) w5 fun t6 w6 =>
  RunU Try.prog (Instr.storeAt 77 t6 t5) w6 fun w7 =>
  Run Try.prog (Instr.loadAt 79 t_1) w7 fun t7 w8 =>
  RunU Try.prog (Instr.storeAt 79 t2 t7) w8 fun w9 =>
  resK Try.prog t2 79 w9 fun r0 =>
  R r0 w9
theorem S22_eq (t_0 : Value) (w : World) (R : Value → World → Prop) : vcFn Try.prog Try.f22 [t_0] w R = S22 t_0 w R := by kernel_rfl
theorem D22 {t_0 : Value} {w : World} {R : Value → World → Prop} (h : S22 t_0 w R) : Does Try.prog 22 [t_0] w R :=
  does_of_vc mixed Try.func22 (by kernel_rfl) (by kernel_rfl) ((S22_eq t_0 w R).mpr h)

/-- busbar/busbarref05.Kinds -/
def S23 (d_0 : Value) (w : World) (R : Value → World → Prop) : Prop :=
  Run Try.prog (Instr.box 32 d_0) w fun d_1 w1 =>
  Run Try.prog (Instr.fieldAt 32 d_1 0) w1 fun t6 w2 =>
  Run Try.prog (Instr.loadAt 4 t6) w2 fun t7 w3 =>
  CondP t7 1 (fun (k1 : N1) =>
    Run Try.prog (Instr.buildSlice 81 1 #[(0, (Go.Value.int Go.IntKind.i64 1))]) w3 fun t9 w4 =>
    Run Try.prog (Builtin.append_ #[81, 81] 81 #[(Go.Value.slice none 0 0), t9]) w4 fun t10 w5 =>
    k1 t10 w5)
  (fun (k2 : N1) =>
    k2 (Go.Value.slice none 0 0) w3)
  (fun (l_3 : Value) (w6 : World) => 
  Run Try.prog (Instr.buildSlice 81 1 #[(0, (Go.Value.int Go.IntKind.i64 2))]) w6 fun t12 w7 =>
  Run Try.prog (Builtin.append_ #[81, 81] 81 #[l_3, t12]) w7 fun t13 w8 =>
  JoinP 2 (fun (k3 : N2) =>
    LoopP 2 (fun (k4 : N2) => (fun (l_3 : Value) (i_4 : Value) (w9 : World) => 
      Run Try.prog (Instr.fieldAt 32 d_1 3) w9 fun t15 w10 =>
      Run Try.prog (Instr.loadAt 29 t15) w10 fun t16 w11 =>
      Run Try.prog (Builtin.len_ #[29] 3 #[t16]) w11 fun t17 w12 =>
      Run Try.prog (binSem Go.BinOp.lss 3 (Go.Operand.tmp 14) (Go.Operand.tmp 17) i_4 t17) w12 fun t18 w13 =>
      CondP t18 0 (fun (k5 : N0) =>
        k5 w13)
      (fun (k6 : N0) =>
        k3 l_3 i_4 w13)
      (fun (w14 : World) => 
      JoinP 1 (fun (k7 : N1) =>
        Run Try.prog (Instr.buildSlice 81 1 #[(0, (Go.Value.int Go.IntKind.i64 3))]) w14 fun t22 w15 =>
        Run Try.prog (Builtin.append_ #[81, 81] 81 #[l_3, t22]) w15 fun t23 w16 =>
        k7 t23 w16)
      (fun (l_3 : Value) (w17 : World) => 
      Run Try.prog (binSem Go.BinOp.add 3 (Go.Operand.tmp 19) (Go.Operand.const (Go.Value.int Go.IntKind.i64 1)) i_4 (Go.Value.int Go.IntKind.i64 1)) w17 fun t20 w18 =>
      k4 l_3 t20 w18))))
    [t13, (Go.Value.int Go.IntKind.i64 0)] w8)
  (fun (l_3 : Value) (i_4 : Value) (w19 : World) => 
  JoinP 2 (fun (k8 : N2) =>
    LoopP 2 (fun (k9 : N2) => (fun (l_3 : Value) (i_5 : Value) (w20 : World) => 
      Run Try.prog (Instr.fieldAt 32 d_1 4) w20 fun t25 w21 =>
      Run Try.prog (Instr.loadAt 30 t25) w21 fun t26 w22 =>
      Run Try.prog (Builtin.len_ #[30] 3 #[t26]) w22 fun t27 w23 =>
      Run Try.prog (binSem Go.BinOp.lss 3 (Go.Operand.tmp 24) (Go.Operand.tmp 27) i_5 t27) w23 fun t28 w24 =>
      CondP t28 0 (fun (k10 : N0) =>
        k10 w24)
      (fun (k11 : N0) =>
        k8 l_3 i_5 w24)
      (fun (w25 : World) => 
      JoinP 1 (fun (k12 : N1) =>
        Run Try.prog (Instr.buildSlice 81 1 #[(0, (Go.Value.int Go.IntKind.i64 4))]) w25 fun t32 w26 =>
        Run Try.prog (Builtin.append_ #[81, 81] 81 #[l_3, t32]) w26 fun t33 w27 =>
        k12 t33 w27)
      (fun (l_3 : Value) (w28 : World) => 
      Run Try.prog (binSem Go.BinOp.add 3 (Go.Operand.tmp 29) (Go.Operand.const (Go.Value.int Go.IntKind.i64 1)) i_5 (Go.Value.int Go.IntKind.i64 1)) w28 fun t30 w29 =>
      k9 l_3 t30 w29))))
    [l_3, (Go.Value.int Go.IntKind.i64 0)] w19)
  (fun (l_3 : Value) (i_5 : Value) (w30 : World) => 
  R l_3 w30)))
theorem S23_eq (d_0 : Value) (w : World) (R : Value → World → Prop) : vcFn Try.prog Try.f23 [d_0] w R = S23 d_0 w R := by kernel_rfl
theorem D23 {d_0 : Value} {w : World} {R : Value → World → Prop} (h : S23 d_0 w R) : Does Try.prog 23 [d_0] w R :=
  does_of_vc mixed Try.func23 (by kernel_rfl) (by kernel_rfl) ((S23_eq d_0 w R).mpr h)

/-- busbar/busbarref0.SameStations -/
def S24 (a_0 b_1 : Value) (w : World) (R : Value → World → Prop) : Prop :=
  Run Try.prog (Instr.box 28 a_0) w fun a_2 w1 =>
  Run Try.prog (Instr.box 28 b_1) w1 fun b_3 w2 =>
  Run Try.prog (Instr.fieldAt 28 a_2 0) w2 fun t5 w3 =>
  Run Try.prog (Instr.loadAt 23 t5) w3 fun t6 w4 =>
  Run Try.prog (Instr.fieldAt 28 b_3 0) w4 fun t7 w5 =>
  Run Try.prog (Instr.loadAt 23 t7) w5 fun t8 w6 =>
  Run Try.prog (binSem Go.BinOp.eql 23 (Go.Operand.tmp 6) (Go.Operand.tmp 8) t6 t8) w6 fun t9 w7 =>
  GuardP t9 true (fun (k1 : N1) => Run Try.prog (Instr.fieldAt 28 a_2 1) w7 k1) w7 fun t11 w8 =>
  GuardP t9 true (fun (k2 : N1) => Run Try.prog (Instr.loadAt 26 t11) w8 k2) w8 fun t12 w9 =>
  GuardP t9 true (fun (k3 : N1) => Run Try.prog (Instr.fieldAt 28 b_3 1) w9 k3) w9 fun t13 w10 =>
  GuardP t9 true (fun (k4 : N1) => Run Try.prog (Instr.loadAt 26 t13) w10 k4) w10 fun t14 w11 =>
  GuardP t9 true (fun (k5 : N1) => GoN Try.prog (callFunc 55 #[t12, t14]) w11 k5) w11 fun t15 w12 =>
  PickP t9 t15 (Go.Value.bool false) w12 fun t16 w13 =>
  R t16 w13
theorem S24_eq (a_0 b_1 : Value) (w : World) (R : Value → World → Prop) : vcFn Try.prog Try.f24 [a_0, b_1] w R = S24 a_0 b_1 w R := by kernel_rfl
theorem D24 {a_0 b_1 : Value} {w : World} {R : Value → World → Prop} (h : S24 a_0 b_1 w R) : Does Try.prog 24 [a_0, b_1] w R :=
  does_of_vc mixed Try.func24 (by kernel_rfl) (by kernel_rfl) ((S24_eq a_0 b_1 w R).mpr h)

/-- busbar/busbarref0.SameTable -/
def S25 (a_0 b_1 : Value) (w : World) (R : Value → World → Prop) : Prop :=
  Run Try.prog (Instr.box 79 a_0) w fun a_2 w1 =>
  Run Try.prog (Instr.box 79 b_1) w1 fun b_3 w2 =>
  Run Try.prog (Instr.fieldAt 79 a_2 0) w2 fun t5 w3 =>
  Run Try.prog (Instr.loadAt 23 t5) w3 fun t6 w4 =>
  Run Try.prog (Instr.fieldAt 79 b_3 0) w4 fun t7 w5 =>
  Run Try.prog (Instr.loadAt 23 t7) w5 fun t8 w6 =>
  Run Try.prog (binSem Go.BinOp.eql 23 (Go.Operand.tmp 6) (Go.Operand.tmp 8) t6 t8) w6 fun t9 w7 =>
  GuardP t9 true (fun (k1 : N1) => Run Try.prog (Instr.fieldAt 79 a_2 1) w7 k1) w7 fun t11 w8 =>
  GuardP t9 true (fun (k2 : N1) => Run Try.prog (Instr.loadAt 59 t11) w8 k2) w8 fun t12 w9 =>
  GuardP t9 true (fun (k3 : N1) => Run Try.prog (Instr.fieldAt 79 b_3 1) w9 k3) w9 fun t13 w10 =>
  GuardP t9 true (fun (k4 : N1) => Run Try.prog (Instr.loadAt 59 t13) w10 k4) w10 fun t14 w11 =>
  GuardP t9 true (fun (k5 : N1) => Run Try.prog (binSem Go.BinOp.eql 59 (Go.Operand.tmp 12) (Go.Operand.tmp 14) t12 t14) w11 k5) w11 fun t15 w12 =>
  PickP t9 t15 (Go.Value.bool false) w12 fun t16 w13 =>
  GuardP t16 true (fun (k6 : N1) => Run Try.prog (Instr.fieldAt 79 a_2 2) w13 k6) w13 fun t18 w14 =>
  GuardP t16 true (fun (k7 : N1) => Run Try.prog (Instr.loadAt 4 t18) w14 k7) w14 fun t19 w15 =>
  GuardP t16 true (fun (k8 : N1) => Run Try.prog (Instr.fieldAt 79 b_3 2) w15 k8) w15 fun t20 w16 =>
  GuardP t16 true (fun (k9 : N1) => Run Try.prog (Instr.loadAt 4 t20) w16 k9) w16 fun t21 w17 =>
  GuardP t16 true (fun (k10 : N1) => Run Try.prog (binSem Go.BinOp.eql 4 (Go.Operand.tmp 19) (Go.Operand.tmp 21) t19 t21) w17 k10) w17 fun t22 w18 =>
  PickP t16 t22 (Go.Value.bool false) w18 fun t23 w19 =>
  GuardP t23 true (fun (k11 : N1) => Run Try.prog (Instr.fieldAt 79 a_2 3) w19 k11) w19 fun t25 w20 =>
  GuardP t23 true (fun (k12 : N1) => Run Try.prog (Instr.loadAt 9 t25) w20 k12) w20 fun t26 w21 =>
  GuardP t23 true (fun (k13 : N1) => Run Try.prog (Instr.fieldAt 79 b_3 3) w21 k13) w21 fun t27 w22 =>
  GuardP t23 true (fun (k14 : N1) => Run Try.prog (Instr.loadAt 9 t27) w22 k14) w22 fun t28 w23 =>
  GuardP t23 true (fun (k15 : N1) => Run Try.prog (binSem Go.BinOp.eql 9 (Go.Operand.tmp 26) (Go.Operand.tmp 28) t26 t28) w23 k15) w23 fun t29 w24 =>
  PickP t23 t29 (Go.Value.bool false) w24 fun t30 w25 =>
  GuardP t30 true (fun (k16 : N1) => Run Try.prog (Instr.fieldAt 79 a_2 4) w25 k16) w25 fun t32 w26 =>
  GuardP t30 true (fun (k17 : N1) => Run Try.prog (Instr.loadAt 77 t32) w26 k17) w26 fun t33 w27 =>
  GuardP t30 true (fun (k18 : N1) => Run Try.prog (Instr.fieldAt 79 b_3 4) w27 k18) w27 fun t34 w28 =>
  GuardP t30 true (fun (k19 : N1) => Run Try.prog (Instr.loadAt 77 t34) w28 k19) w28 fun t35 w29 =>
  GuardP t30 true (fun (k20 : N1) => GoN Try.prog (callFunc 56 #[t33, t35]) w29 k20) w29 fun t36 w30 =>
  PickP t30 t36 (Go.Value.bool false) w30 fun t37 w31 =>
  R t37 w31
theorem S25_eq (a_0 b_1 : Value) (w : World) (R : Value → World → Prop) : vcFn Try.prog Try.f25 [a_0, b_1] w R = S25 a_0 b_1 w R := by kernel_rfl
theorem D25 {a_0 b_1 : Value} {w : World} {R : Value → World → Prop} (h : S25 a_0 b_1 w R) : Does Try.prog 25 [a_0, b_1] w R :=
  does_of_vc mixed Try.func25 (by kernel_rfl) (by kernel_rfl) ((S25_eq a_0 b_1 w R).mpr h)

end Go.Proofs.Ytmgleeoecdodjaa.Sh
