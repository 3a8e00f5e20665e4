/- The conditions of functions, printed by a program off the loaded code and held against it by the kernel. Conditions: none. -/
import Derived.Test.YtmgleeoecdodjaaDoorV5
import Derived.Test.YtmgleeoecdodjaaDoorProg
set_option linter.unusedVariables false
set_option maxRecDepth 100000
namespace Go.Proofs.YtmgleeoecdodjaaDoor.Sh
open Go Go.V
theorem mixed : Tryd.prog.follows .mixedOrders = true := by kernel_rfl
/-- busbar/busbarlaw05.NodeGathers -/
def S3 (d_0 picks_1 : Value) (w : World) (R : Value → World → Prop) : Prop :=
  Run Tryd.prog (Instr.box 32 d_0) w fun d_2 w1 =>
  ∀ w2, Ext w1 w2 →
  RunQ Tryd.prog (Builtin.len_ #[33] 3 #[picks_1]) w2 fun t19 =>
  RunQ Tryd.prog (binSem Go.BinOp.gtr 3 (Go.Operand.tmp 19) (Go.Operand.const (Go.Value.int Go.IntKind.i64 200)) t19 (Go.Value.int Go.IntKind.i64 200)) w2 fun t20 =>
  GuardQ t20 false (fun (k1 : Value → Prop) => RunQ Tryd.prog (Instr.loadAt 32 d_2) w2 k1) fun t22 =>
  GuardP t20 false (fun (k2 : N1) => GoN Tryd.prog (callFunc 5 #[t22]) w2 k2) w2 fun t23 w3 => Ext w2 w3 ∧
  GuardQ t20 false (fun (k3 : Value → Prop) => RunQ Tryd.prog (Instr.loadAt 32 d_2) w2 k3) fun t24 =>
  GuardP t20 false (fun (k4 : N1) => GoN Tryd.prog (callFunc 4 #[t23, t24]) w3 k4) w3 fun t25 w4 => Ext w2 w4 ∧
  GuardQ t20 false (fun (k5 : Value → Prop) => RunQ Tryd.prog (Op.unary Go.UnOp.not t25) w2 k5) fun t26 =>
  PickQ t20 (Go.Value.bool true) t26 fun t27 =>
  CondP t27 1 (fun (k6 : N1) =>
    Run Tryd.prog (Builtin.len_ #[33] 3 #[picks_1]) w4 fun t29 w5 =>
    Run Tryd.prog (binSem Go.BinOp.gtr 3 (Go.Operand.tmp 29) (Go.Operand.const (Go.Value.int Go.IntKind.i64 200)) t29 (Go.Value.int Go.IntKind.i64 200)) w5 fun t30 w6 =>
    R t30 w6)
  (fun (k7 : N1) =>
    k7 (Go.Value.bool false) w4)
  (fun (t4 : Value) (w7 : World) => 
  Run Tryd.prog (Instr.loadAt 32 d_2) w7 fun t32 w8 =>
  GoN Tryd.prog (callFunc 6 #[t32, picks_1]) w8 fun t34 w9 =>
  Run Tryd.prog (Instr.extract t34 0) w9 fun t35 w10 =>
  Run Tryd.prog (Instr.extract t34 1) w10 fun t36 w11 =>
  Run Tryd.prog (Instr.extract t34 2) w11 fun t37 w12 =>
  Run Tryd.prog (Instr.alloc 32 true (.tuple #[])) w12 fun want_7 w13 =>
  RunU Tryd.prog (Instr.storeAt 32 want_7 t37) w13 fun w14 =>
  GoN Tryd.prog (callFunc 7 #[t36]) w14 fun t40 w15 =>
  Run Tryd.prog (Instr.extract t40 0) w15 fun t41 w16 =>
  Run Tryd.prog (Instr.extract t40 1) w16 fun t42 w17 =>
  Run Tryd.prog (binSem Go.BinOp.neq 3 (Go.Operand.tmp 43) (Go.Operand.const (Go.Value.int Go.IntKind.i64 0)) t41 (Go.Value.int Go.IntKind.i64 0)) w17 fun t44 w18 =>
  CondP t44 0 (fun (k8 : N0) =>
    Run Tryd.prog (Instr.build 32 #[]) w18 fun t45 w19 =>
    RunU Tryd.prog (Instr.storeAt 32 want_7 t45) w19 fun w20 =>
    k8 w20)
  (fun (k9 : N0) =>
    k9 w18)
  (fun (w21 : World) => 
  GoN Tryd.prog (callFunc 8 #[t35]) w21 fun t48 w22 =>
  Run Tryd.prog (Instr.extract t48 0) w22 fun t49 w23 =>
  Run Tryd.prog (Instr.extract t48 1) w23 fun t50 w24 =>
  Run Tryd.prog (Instr.alloc 32 true (.tuple #[])) w24 fun a_10 w25 =>
  RunU Tryd.prog (Instr.storeAt 32 a_10 t49) w25 fun w26 =>
  GoN Tryd.prog (callFunc 8 #[t35]) w26 fun t53 w27 =>
  Run Tryd.prog (Instr.extract t53 0) w27 fun t54 w28 =>
  Run Tryd.prog (Instr.extract t53 1) w28 fun t55 w29 =>
  Run Tryd.prog (Instr.alloc 32 true (.tuple #[])) w29 fun b_12 w30 =>
  RunU Tryd.prog (Instr.storeAt 32 b_12 t54) w30 fun w31 =>
  GoN Tryd.prog (callFunc 9 #[t50, t41, (Go.Value.int Go.IntKind.i64 0), t42]) w31 fun t59 w32 =>
  Run Tryd.prog (Op.unary Go.UnOp.not t59) w32 fun t60 w33 =>
  GuardP t60 false (fun (k10 : N1) => k10 t55 w33) w33 fun t62 w34 =>
  GuardP t60 false (fun (k11 : N1) => k11 t41 w34) w34 fun t63 w35 =>
  GuardP t60 false (fun (k12 : N1) => k12 t42 w35) w35 fun t64 w36 =>
  GuardP t60 false (fun (k13 : N1) => GoN Tryd.prog (callFunc 9 #[t62, t63, (Go.Value.int Go.IntKind.i64 0), t64]) w36 k13) w36 fun t65 w37 =>
  GuardP t60 false (fun (k14 : N1) => Run Tryd.prog (Op.unary Go.UnOp.not t65) w37 k14) w37 fun t66 w38 =>
  PickP t60 (Go.Value.bool true) t66 w38 fun t67 w39 =>
  GuardP t67 false (fun (k15 : N1) => Run Tryd.prog (Instr.loadAt 32 a_10) w39 k15) w39 fun t69 w40 =>
  GuardP t67 false (fun (k16 : N1) => Run Tryd.prog (Instr.loadAt 32 want_7) w40 k16) w40 fun t70 w41 =>
  GuardP t67 false (fun (k17 : N1) => GoN Tryd.prog (callFunc 10 #[t69, t70]) w41 k17) w41 fun t71 w42 =>
  GuardP t67 false (fun (k18 : N1) => Run Tryd.prog (Op.unary Go.UnOp.not t71) w42 k18) w42 fun t72 w43 =>
  PickP t67 (Go.Value.bool true) t72 w43 fun t73 w44 =>
  GuardP t73 false (fun (k19 : N1) => Run Tryd.prog (Instr.loadAt 32 b_12) w44 k19) w44 fun t75 w45 =>
  GuardP t73 false (fun (k20 : N1) => Run Tryd.prog (Instr.loadAt 32 want_7) w45 k20) w45 fun t76 w46 =>
  GuardP t73 false (fun (k21 : N1) => GoN Tryd.prog (callFunc 10 #[t75, t76]) w46 k21) w46 fun t77 w47 =>
  GuardP t73 false (fun (k22 : N1) => Run Tryd.prog (Op.unary Go.UnOp.not t77) w47 k22) w47 fun t78 w48 =>
  PickP t73 (Go.Value.bool true) t78 w48 fun t79 w49 =>
  CondP t79 1 (fun (k23 : N1) =>
    R (Go.Value.bool false) w49)
  (fun (k24 : N1) =>
    k24 t4 w49)
  (fun (t4 : Value) (w50 : World) => 
  JoinP 2 (fun (k25 : N2) =>
    LoopP 2 (fun (k26 : N2) => (fun (t4 : Value) (i_14 : Value) (w51 : World) => 
      Run Tryd.prog (Builtin.len_ #[35] 3 #[t35]) w51 fun t82 w52 =>
      Run Tryd.prog (binSem Go.BinOp.lss 3 (Go.Operand.tmp 80) (Go.Operand.tmp 82) i_14 t82) w52 fun t83 w53 =>
      CondP t83 0 (fun (k27 : N0) =>
        k27 w53)
      (fun (k28 : N0) =>
        k25 t4 i_14 w53)
      (fun (w54 : World) => 
      JoinP 1 (fun (k29 : N1) =>
        ∀ w55, Ext w54 w55 →
        RunQ Tryd.prog (Instr.indexAt 35 t35 i_14) w55 fun t88 =>
        RunQ Tryd.prog (Instr.loadAt 49 t88) w55 fun t89 =>
        GoN Tryd.prog (callFunc 11 #[t89]) w55 fun t90 w56 => Ext w55 w56 ∧
        RunQ Tryd.prog (Instr.indexAt 33 t36 i_14) w55 fun t93 =>
        RunQ Tryd.prog (Instr.loadAt 3 t93) w55 fun t94 =>
        GoN Tryd.prog (callFunc 12 #[t94]) w56 fun t95 w57 => Ext w55 w57 ∧
        RunQ Tryd.prog (binSem Go.BinOp.neq 9 (Go.Operand.tmp 90) (Go.Operand.tmp 95) t90 t95) w55 fun t96 =>
        CondP t96 1 (fun (k30 : N1) =>
          R (Go.Value.bool false) w57)
        (fun (k31 : N1) =>
          k31 t4 w57)
        (fun (t4 : Value) (w58 : World) => 
        k29 t4 w58))
      (fun (t4 : Value) (w59 : World) => 
      Run Tryd.prog (binSem Go.BinOp.add 3 (Go.Operand.tmp 84) (Go.Operand.const (Go.Value.int Go.IntKind.i64 1)) i_14 (Go.Value.int Go.IntKind.i64 1)) w59 fun t85 w60 =>
      k26 t4 t85 w60))))
    [t4, (Go.Value.int Go.IntKind.i64 0)] w50)
  (fun (t4 : Value) (i_14 : Value) (w61 : World) => 
  Run Tryd.prog (Instr.alloc 67 true (.tuple #[])) w61 fun k_15 w62 =>
  Run Tryd.prog (Instr.loadAt 32 a_10) w62 fun t97 w63 =>
  GoN Tryd.prog (callFunc 13 #[k_15, t97]) w63 fun t98 w64 =>
  Run Tryd.prog (Instr.loadAt 32 b_12) w64 fun t99 w65 =>
  GoN Tryd.prog (callFunc 13 #[k_15, t99]) w65 fun t100 w66 =>
  GoN Tryd.prog (callFunc 14 #[k_15]) w66 fun t101 w67 =>
  Run Tryd.prog (Op.unary Go.UnOp.not t101) w67 fun t102 w68 =>
  CondP t102 1 (fun (k32 : N1) =>
    R (Go.Value.bool false) w68)
  (fun (k33 : N1) =>
    k33 t4 w68)
  (fun (t4 : Value) (w69 : World) => 
  GoN Tryd.prog (callFunc 8 #[t35]) w69 fun t105 w70 =>
  Run Tryd.prog (Instr.extract t105 0) w70 fun t106 w71 =>
  Run Tryd.prog (Instr.extract t105 1) w71 fun t107 w72 =>
  Run Tryd.prog (Instr.alloc 32 true (.tuple #[])) w72 fun c_16 w73 =>
  RunU Tryd.prog (Instr.storeAt 32 c_16 t106) w73 fun w74 =>
  GoN Tryd.prog (callFunc 9 #[t107, t41, (Go.Value.int Go.IntKind.i64 0), t42]) w74 fun t111 w75 =>
  GuardP t111 true (fun (k34 : N1) => Run Tryd.prog (Instr.loadAt 32 c_16) w75 k34) w75 fun t113 w76 =>
  GuardP t111 true (fun (k35 : N1) => Run Tryd.prog (Instr.loadAt 32 want_7) w76 k35) w76 fun t114 w77 =>
  GuardP t111 true (fun (k36 : N1) => GoN Tryd.prog (callFunc 10 #[t113, t114]) w77 k36) w77 fun t115 w78 =>
  PickP t111 t115 (Go.Value.bool false) w78 fun t116 w79 =>
  R t116 w79)))))
theorem S3_eq (d_0 picks_1 : Value) (w : World) (R : Value → World → Prop) : vcFn Tryd.prog Tryd.f3 [d_0, picks_1] w R = S3 d_0 picks_1 w R := by kernel_rfl
theorem D3 {d_0 picks_1 : Value} {w : World} {R : Value → World → Prop} (h : S3 d_0 picks_1 w R) : Does Tryd.prog 3 [d_0, picks_1] w R :=
  does_of_vc mixed Tryd.func3 (by kernel_rfl) (by kernel_rfl) ((S3_eq d_0 picks_1 w R).mpr h)

/-- busbar/busbarlaw05.told -/
def S4 (l_0 d_1 : Value) (w : World) (R : Value → World → Prop) : Prop :=
  Run Tryd.prog (Instr.box 32 d_1) w fun d_3 w1 =>
  Run Tryd.prog (Instr.loadAt 32 d_3) w1 fun t17 w2 =>
  GoN Tryd.prog (callFunc 15 #[t17]) w2 fun t18 w3 =>
  Run Tryd.prog (Builtin.len_ #[35] 3 #[l_0]) w3 fun t20 w4 =>
  Run Tryd.prog (Builtin.len_ #[33] 3 #[t18]) w4 fun t22 w5 =>
  Run Tryd.prog (binSem Go.BinOp.neq 3 (Go.Operand.tmp 20) (Go.Operand.tmp 22) t20 t22) w5 fun t23 w6 =>
  CondP t23 1 (fun (k1 : N1) =>
    R (Go.Value.bool false) w6)
  (fun (k2 : N1) =>
    k2 (Go.Value.bool false) w6)
  (fun (t4 : Value) (w7 : World) => 
  JoinP 4 (fun (k3 : N4) =>
    LoopP 4 (fun (k4 : N4) => (fun (messages_6 : Value) (t4 : Value) (tables_7 : Value) (i_8 : Value) (w8 : World) => 
      Run Tryd.prog (Builtin.len_ #[35] 3 #[l_0]) w8 fun t26 w9 =>
      Run Tryd.prog (binSem Go.BinOp.lss 3 (Go.Operand.tmp 24) (Go.Operand.tmp 26) i_8 t26) w9 fun t27 w10 =>
      CondP t27 0 (fun (k5 : N0) =>
        k5 w10)
      (fun (k6 : N0) =>
        k3 messages_6 t4 tables_7 i_8 w10)
      (fun (w11 : World) => 
      JoinP 3 (fun (k7 : N3) =>
        Run Tryd.prog (Instr.indexAt 35 l_0 i_8) w11 fun t33 w12 =>
        Run Tryd.prog (Instr.loadAt 49 t33) w12 fun t34 w13 =>
        Run Tryd.prog (Instr.typeAssert t34 49 25 true) w13 fun t35 w14 =>
        Run Tryd.prog (Instr.extract t35 0) w14 fun t36 w15 =>
        Run Tryd.prog (Instr.extract t35 1) w15 fun t37 w16 =>
        Run Tryd.prog (Instr.alloc 25 true (.tuple #[])) w16 fun v_9 w17 =>
        RunU Tryd.prog (Instr.storeAt 25 v_9 t36) w17 fun w18 =>
        Run Tryd.prog (Instr.indexAt 35 l_0 i_8) w18 fun t41 w19 =>
        Run Tryd.prog (Instr.loadAt 49 t41) w19 fun t42 w20 =>
        Run Tryd.prog (Instr.typeAssert t42 49 28 true) w20 fun t43 w21 =>
        Run Tryd.prog (Instr.extract t43 0) w21 fun t44 w22 =>
        Run Tryd.prog (Instr.extract t43 1) w22 fun t45 w23 =>
        Run Tryd.prog (Instr.alloc 28 true (.tuple #[])) w23 fun s_11 w24 =>
        RunU Tryd.prog (Instr.storeAt 28 s_11 t44) w24 fun w25 =>
        Run Tryd.prog (Instr.indexAt 35 l_0 i_8) w25 fun t49 w26 =>
        Run Tryd.prog (Instr.loadAt 49 t49) w26 fun t50 w27 =>
        Run Tryd.prog (Instr.typeAssert t50 49 77 true) w27 fun t51 w28 =>
        Run Tryd.prog (Instr.extract t51 0) w28 fun t52 w29 =>
        Run Tryd.prog (Instr.extract t51 1) w29 fun t53 w30 =>
        Run Tryd.prog (Instr.alloc 77 true (.tuple #[])) w30 fun m_13 w31 =>
        RunU Tryd.prog (Instr.storeAt 77 m_13 t52) w31 fun w32 =>
        Run Tryd.prog (Instr.indexAt 35 l_0 i_8) w32 fun t57 w33 =>
        Run Tryd.prog (Instr.loadAt 49 t57) w33 fun t58 w34 =>
        Run Tryd.prog (Instr.typeAssert t58 49 81 true) w34 fun t59 w35 =>
        Run Tryd.prog (Instr.extract t59 0) w35 fun t60 w36 =>
        Run Tryd.prog (Instr.extract t59 1) w36 fun t61 w37 =>
        Run Tryd.prog (Instr.alloc 81 true (.tuple #[])) w37 fun t_15 w38 =>
        RunU Tryd.prog (Instr.storeAt 81 t_15 t60) w38 fun w39 =>
        Run Tryd.prog (Instr.indexAt 33 t18 i_8) w39 fun t65 w40 =>
        Run Tryd.prog (Instr.loadAt 3 t65) w40 fun t66 w41 =>
        Run Tryd.prog (binSem Go.BinOp.eql 3 (Go.Operand.tmp 66) (Go.Operand.const (Go.Value.int Go.IntKind.i64 1)) t66 (Go.Value.int Go.IntKind.i64 1)) w41 fun t67 w42 =>
        Run Tryd.prog (binSem Go.BinOp.neq 4 (Go.Operand.tmp 62) (Go.Operand.tmp 67) t37 t67) w42 fun t68 w43 =>
        GuardP t68 false (fun (k8 : N1) => k8 t45 w43) w43 fun t70 w44 =>
        GuardP t68 false (fun (k9 : N1) => k9 t18 w44) w44 fun t71 w45 =>
        GuardP t68 false (fun (k10 : N1) => k10 i_8 w45) w45 fun t72 w46 =>
        GuardP t68 false (fun (k11 : N1) => Run Tryd.prog (Instr.indexAt 33 t71 t72) w46 k11) w46 fun t73 w47 =>
        GuardP t68 false (fun (k12 : N1) => Run Tryd.prog (Instr.loadAt 3 t73) w47 k12) w47 fun t74 w48 =>
        GuardP t68 false (fun (k13 : N1) => Run Tryd.prog (binSem Go.BinOp.eql 3 (Go.Operand.tmp 74) (Go.Operand.const (Go.Value.int Go.IntKind.i64 2)) t74 (Go.Value.int Go.IntKind.i64 2)) w48 k13) w48 fun t75 w49 =>
        GuardP t68 false (fun (k14 : N1) => Run Tryd.prog (binSem Go.BinOp.neq 4 (Go.Operand.tmp 70) (Go.Operand.tmp 75) t70 t75) w49 k14) w49 fun t76 w50 =>
        PickP t68 (Go.Value.bool true) t76 w50 fun t77 w51 =>
        GuardP t77 false (fun (k15 : N1) => k15 t53 w51) w51 fun t79 w52 =>
        GuardP t77 false (fun (k16 : N1) => k16 t18 w52) w52 fun t80 w53 =>
        GuardP t77 false (fun (k17 : N1) => k17 i_8 w53) w53 fun t81 w54 =>
        GuardP t77 false (fun (k18 : N1) => Run Tryd.prog (Instr.indexAt 33 t80 t81) w54 k18) w54 fun t82 w55 =>
        GuardP t77 false (fun (k19 : N1) => Run Tryd.prog (Instr.loadAt 3 t82) w55 k19) w55 fun t83 w56 =>
        GuardP t77 false (fun (k20 : N1) => Run Tryd.prog (binSem Go.BinOp.eql 3 (Go.Operand.tmp 83) (Go.Operand.const (Go.Value.int Go.IntKind.i64 3)) t83 (Go.Value.int Go.IntKind.i64 3)) w56 k20) w56 fun t84 w57 =>
        GuardP t77 false (fun (k21 : N1) => Run Tryd.prog (binSem Go.BinOp.neq 4 (Go.Operand.tmp 79) (Go.Operand.tmp 84) t79 t84) w57 k21) w57 fun t85 w58 =>
        PickP t77 (Go.Value.bool true) t85 w58 fun t86 w59 =>
        GuardP t86 false (fun (k22 : N1) => k22 t61 w59) w59 fun t88 w60 =>
        GuardP t86 false (fun (k23 : N1) => k23 t18 w60) w60 fun t89 w61 =>
        GuardP t86 false (fun (k24 : N1) => k24 i_8 w61) w61 fun t90 w62 =>
        GuardP t86 false (fun (k25 : N1) => Run Tryd.prog (Instr.indexAt 33 t89 t90) w62 k25) w62 fun t91 w63 =>
        GuardP t86 false (fun (k26 : N1) => Run Tryd.prog (Instr.loadAt 3 t91) w63 k26) w63 fun t92 w64 =>
        GuardP t86 false (fun (k27 : N1) => Run Tryd.prog (binSem Go.BinOp.eql 3 (Go.Operand.tmp 92) (Go.Operand.const (Go.Value.int Go.IntKind.i64 4)) t92 (Go.Value.int Go.IntKind.i64 4)) w64 k27) w64 fun t93 w65 =>
        GuardP t86 false (fun (k28 : N1) => Run Tryd.prog (binSem Go.BinOp.neq 4 (Go.Operand.tmp 88) (Go.Operand.tmp 93) t88 t93) w65 k28) w65 fun t94 w66 =>
        PickP t86 (Go.Value.bool true) t94 w66 fun t95 w67 =>
        CondP t95 1 (fun (k29 : N1) =>
          R (Go.Value.bool false) w67)
        (fun (k30 : N1) =>
          k30 t4 w67)
        (fun (t4 : Value) (w68 : World) => 
        ∀ w69, Ext w68 w69 →
        GuardQ t37 true (fun (k31 : Value → Prop) => RunQ Tryd.prog (Instr.loadAt 25 v_9) w69 k31) fun t98 =>
        GuardQ t37 true (fun (k32 : Value → Prop) => RunQ Tryd.prog (Instr.fieldAt 32 d_3 1) w69 k32) fun t99 =>
        GuardQ t37 true (fun (k33 : Value → Prop) => RunQ Tryd.prog (Instr.loadAt 25 t99) w69 k33) fun t100 =>
        GuardQ t37 true (fun (k34 : Value → Prop) => RunQ Tryd.prog (binSem Go.BinOp.neq 25 (Go.Operand.tmp 98) (Go.Operand.tmp 100) t98 t100) w69 k34) fun t101 =>
        GuardQ t37 true (fun (k35 : Value → Prop) => k35 t101) fun t102 =>
        GuardQ t102 false (fun (k36 : Value → Prop) => k36 l_0) fun t103 =>
        GuardQ t102 false (fun (k37 : Value → Prop) => k37 i_8) fun t104 =>
        GuardQ t102 false (fun (k38 : Value → Prop) => RunQ Tryd.prog (Instr.indexAt 35 t103 t104) w69 k38) fun t105 =>
        GuardQ t102 false (fun (k39 : Value → Prop) => RunQ Tryd.prog (Instr.loadAt 49 t105) w69 k39) fun t106 =>
        GuardP t102 false (fun (k40 : N1) => GoN Tryd.prog (callMethod t106 "Where" #[]) w69 k40) w69 fun t107 w70 => Ext w69 w70 ∧
        GuardQ t102 false (fun (k41 : Value → Prop) => RunQ Tryd.prog (Instr.fieldAt 25 v_9 0) w69 k41) fun t108 =>
        GuardQ t102 false (fun (k42 : Value → Prop) => RunQ Tryd.prog (Instr.loadAt 23 t108) w69 k42) fun t109 =>
        GuardQ t102 false (fun (k43 : Value → Prop) => RunQ Tryd.prog (binSem Go.BinOp.neq 23 (Go.Operand.tmp 107) (Go.Operand.tmp 109) t107 t109) w69 k43) fun t110 =>
        GuardQ t37 true (fun (k44 : Value → Prop) => PickQ t102 (Go.Value.bool true) t110 k44) fun t111 =>
        PickQ t37 t111 (Go.Value.bool false) fun t112 =>
        GuardQ t112 false (fun (k45 : Value → Prop) => k45 t45) fun t114 =>
        GuardQ t112 false (fun (k46 : Value → Prop) => k46 t114) fun t115 =>
        GuardQ t115 true (fun (k47 : Value → Prop) => RunQ Tryd.prog (Instr.loadAt 28 s_11) w69 k47) fun t116 =>
        GuardQ t115 true (fun (k48 : Value → Prop) => RunQ Tryd.prog (Instr.fieldAt 32 d_3 2) w69 k48) fun t117 =>
        GuardQ t115 true (fun (k49 : Value → Prop) => RunQ Tryd.prog (Instr.loadAt 28 t117) w69 k49) fun t118 =>
        GuardP t115 true (fun (k50 : N1) => GoN Tryd.prog (callFunc 16 #[t116, t118]) w70 k50) w70 fun t119 w71 => Ext w69 w71 ∧
        GuardQ t115 true (fun (k51 : Value → Prop) => RunQ Tryd.prog (Op.unary Go.UnOp.not t119) w69 k51) fun t120 =>
        GuardQ t112 false (fun (k52 : Value → Prop) => PickQ t115 t120 (Go.Value.bool false) k52) fun t121 =>
        PickQ t112 (Go.Value.bool true) t121 fun t122 =>
        CondP t122 1 (fun (k53 : N1) =>
          R (Go.Value.bool false) w71)
        (fun (k54 : N1) =>
          k54 t4 w71)
        (fun (t4 : Value) (w72 : World) => 
        CondP t53 2 (fun (k55 : N2) =>
          ∀ w73, Ext w72 w73 →
          RunQ Tryd.prog (Instr.loadAt 77 m_13) w73 fun t124 =>
          RunQ Tryd.prog (Instr.fieldAt 32 d_3 3) w73 fun t125 =>
          RunQ Tryd.prog (Instr.loadAt 29 t125) w73 fun t126 =>
          RunQ Tryd.prog (Instr.indexAt 29 t126 messages_6) w73 fun t128 =>
          RunQ Tryd.prog (Instr.loadAt 77 t128) w73 fun t129 =>
          GoN Tryd.prog (callFunc 17 #[t124, t129]) w73 fun t130 w74 => Ext w73 w74 ∧
          RunQ Tryd.prog (Op.unary Go.UnOp.not t130) w73 fun t131 =>
          GuardQ t131 false (fun (k56 : Value → Prop) => k56 l_0) fun t133 =>
          GuardQ t131 false (fun (k57 : Value → Prop) => k57 i_8) fun t134 =>
          GuardQ t131 false (fun (k58 : Value → Prop) => RunQ Tryd.prog (Instr.indexAt 35 t133 t134) w73 k58) fun t135 =>
          GuardQ t131 false (fun (k59 : Value → Prop) => RunQ Tryd.prog (Instr.loadAt 49 t135) w73 k59) fun t136 =>
          GuardP t131 false (fun (k60 : N1) => GoN Tryd.prog (callMethod t136 "Where" #[]) w74 k60) w74 fun t137 w75 => Ext w73 w75 ∧
          GuardQ t131 false (fun (k61 : Value → Prop) => RunQ Tryd.prog (Instr.fieldAt 77 m_13 0) w73 k61) fun t138 =>
          GuardQ t131 false (fun (k62 : Value → Prop) => RunQ Tryd.prog (Instr.loadAt 23 t138) w73 k62) fun t139 =>
          GuardQ t131 false (fun (k63 : Value → Prop) => RunQ Tryd.prog (binSem Go.BinOp.neq 23 (Go.Operand.tmp 137) (Go.Operand.tmp 139) t137 t139) w73 k63) fun t140 =>
          PickQ t131 (Go.Value.bool true) t140 fun t141 =>
          CondP t141 1 (fun (k64 : N1) =>
            R (Go.Value.bool false) w75)
          (fun (k65 : N1) =>
            k65 t4 w75)
          (fun (t4 : Value) (w76 : World) => 
          Run Tryd.prog (binSem Go.BinOp.add 3 (Go.Operand.tmp 142) (Go.Operand.const (Go.Value.int Go.IntKind.i64 1)) messages_6 (Go.Value.int Go.IntKind.i64 1)) w76 fun t143 w77 =>
          k55 t4 t143 w77))
        (fun (k66 : N2) =>
          k66 t4 messages_6 w72)
        (fun (t4 : Value) (messages_6 : Value) (w78 : World) => 
        CondP t61 2 (fun (k67 : N2) =>
          ∀ w79, Ext w78 w79 →
          RunQ Tryd.prog (Instr.loadAt 81 t_15) w79 fun t145 =>
          RunQ Tryd.prog (Instr.fieldAt 32 d_3 4) w79 fun t146 =>
          RunQ Tryd.prog (Instr.loadAt 30 t146) w79 fun t147 =>
          RunQ Tryd.prog (Instr.indexAt 30 t147 tables_7) w79 fun t149 =>
          RunQ Tryd.prog (Instr.loadAt 81 t149) w79 fun t150 =>
          GoN Tryd.prog (callFunc 18 #[t145, t150]) w79 fun t151 w80 => Ext w79 w80 ∧
          RunQ Tryd.prog (Op.unary Go.UnOp.not t151) w79 fun t152 =>
          GuardQ t152 false (fun (k68 : Value → Prop) => k68 l_0) fun t154 =>
          GuardQ t152 false (fun (k69 : Value → Prop) => k69 i_8) fun t155 =>
          GuardQ t152 false (fun (k70 : Value → Prop) => RunQ Tryd.prog (Instr.indexAt 35 t154 t155) w79 k70) fun t156 =>
          GuardQ t152 false (fun (k71 : Value → Prop) => RunQ Tryd.prog (Instr.loadAt 49 t156) w79 k71) fun t157 =>
          GuardP t152 false (fun (k72 : N1) => GoN Tryd.prog (callMethod t157 "Where" #[]) w80 k72) w80 fun t158 w81 => Ext w79 w81 ∧
          GuardQ t152 false (fun (k73 : Value → Prop) => RunQ Tryd.prog (Instr.fieldAt 81 t_15 0) w79 k73) fun t159 =>
          GuardQ t152 false (fun (k74 : Value → Prop) => RunQ Tryd.prog (Instr.loadAt 23 t159) w79 k74) fun t160 =>
          GuardQ t152 false (fun (k75 : Value → Prop) => RunQ Tryd.prog (binSem Go.BinOp.neq 23 (Go.Operand.tmp 158) (Go.Operand.tmp 160) t158 t160) w79 k75) fun t161 =>
          PickQ t152 (Go.Value.bool true) t161 fun t162 =>
          CondP t162 1 (fun (k76 : N1) =>
            R (Go.Value.bool false) w81)
          (fun (k77 : N1) =>
            k77 t4 w81)
          (fun (t4 : Value) (w82 : World) => 
          Run Tryd.prog (binSem Go.BinOp.add 3 (Go.Operand.tmp 163) (Go.Operand.const (Go.Value.int Go.IntKind.i64 1)) tables_7 (Go.Value.int Go.IntKind.i64 1)) w82 fun t164 w83 =>
          k67 t4 t164 w83))
        (fun (k78 : N2) =>
          k78 t4 tables_7 w78)
        (fun (t4 : Value) (tables_7 : Value) (w84 : World) => 
        k7 messages_6 t4 tables_7 w84)))))
      (fun (messages_6 : Value) (t4 : Value) (tables_7 : Value) (w85 : World) => 
      Run Tryd.prog (binSem Go.BinOp.add 3 (Go.Operand.tmp 28) (Go.Operand.const (Go.Value.int Go.IntKind.i64 1)) i_8 (Go.Value.int Go.IntKind.i64 1)) w85 fun t29 w86 =>
      k4 messages_6 t4 tables_7 t29 w86))))
    [(Go.Value.int Go.IntKind.i64 0), t4, (Go.Value.int Go.IntKind.i64 0), (Go.Value.int Go.IntKind.i64 0)] w7)
  (fun (messages_6 : Value) (t4 : Value) (tables_7 : Value) (i_8 : Value) (w87 : World) => 
  R (Go.Value.bool true) w87))
theorem S4_eq (l_0 d_1 : Value) (w : World) (R : Value → World → Prop) : vcFn Tryd.prog Tryd.f4 [l_0, d_1] w R = S4 l_0 d_1 w R := by kernel_rfl
theorem D4 {l_0 d_1 : Value} {w : World} {R : Value → World → Prop} (h : S4 l_0 d_1 w R) : Does Tryd.prog 4 [l_0, d_1] w R :=
  does_of_vc mixed Tryd.func4 (by kernel_rfl) (by kernel_rfl) ((S4_eq l_0 d_1 w R).mpr h)

/-- busbar/node.List -/
def S5 (d_0 : Value) (w : World) (R : Value → World → Prop) : Prop :=
  Run Tryd.prog (Instr.box 32 d_0) w fun d_1 w1 =>
  Run Tryd.prog (Instr.fieldAt 32 d_1 0) w1 fun t8 w2 =>
  Run Tryd.prog (Instr.loadAt 4 t8) w2 fun t9 w3 =>
  CondP t9 1 (fun (k1 : N1) =>
    Run Tryd.prog (Instr.fieldAt 32 d_1 1) w3 fun t11 w4 =>
    Run Tryd.prog (Instr.loadAt 25 t11) w4 fun t12 w5 =>
    Run Tryd.prog (Instr.makeInterface 25 t12) w5 fun t13 w6 =>
    Run Tryd.prog (Instr.buildSlice 35 1 #[(0, t13)]) w6 fun t14 w7 =>
    Run Tryd.prog (Builtin.append_ #[35, 35] 35 #[(Go.Value.slice none 0 0), t14]) w7 fun t15 w8 =>
    k1 t15 w8)
  (fun (k2 : N1) =>
    k2 (Go.Value.slice none 0 0) w3)
  (fun (l_3 : Value) (w9 : World) => 
  Run Tryd.prog (Instr.fieldAt 32 d_1 2) w9 fun t17 w10 =>
  Run Tryd.prog (Instr.loadAt 28 t17) w10 fun t18 w11 =>
  GoN Tryd.prog (callFunc 19 #[t18]) w11 fun t19 w12 =>
  Run Tryd.prog (Instr.makeInterface 28 t19) w12 fun t20 w13 =>
  Run Tryd.prog (Instr.buildSlice 35 1 #[(0, t20)]) w13 fun t21 w14 =>
  Run Tryd.prog (Builtin.append_ #[35, 35] 35 #[l_3, t21]) w14 fun t22 w15 =>
  Run Tryd.prog (Instr.fieldAt 32 d_1 3) w15 fun t23 w16 =>
  Run Tryd.prog (Instr.loadAt 29 t23) w16 fun t24 w17 =>
  Run Tryd.prog (Builtin.len_ #[29] 3 #[t24]) w17 fun t25 w18 =>
  JoinP 2 (fun (k3 : N2) =>
    LoopP 2 (fun (k4 : N2) => (fun (l_3 : Value) (t26 : Value) (w19 : World) => 
      Run Tryd.prog (binSem Go.BinOp.lss 3 (Go.Operand.tmp 26) (Go.Operand.tmp 25) t26 t25) w19 fun t27 w20 =>
      CondP t27 0 (fun (k5 : N0) =>
        k5 w20)
      (fun (k6 : N0) =>
        k3 l_3 t26 w20)
      (fun (w21 : World) => 
      JoinP 1 (fun (k7 : N1) =>
        Run Tryd.prog (Instr.indexAt 29 t24 t26) w21 fun t28 w22 =>
        Run Tryd.prog (Instr.loadAt 77 t28) w22 fun t29 w23 =>
        Run Tryd.prog (Instr.alloc 77 true (.tuple #[])) w23 fun m_5 w24 =>
        RunU Tryd.prog (Instr.storeAt 77 m_5 t29) w24 fun w25 =>
        Run Tryd.prog (Instr.loadAt 77 m_5) w25 fun t31 w26 =>
        GoN Tryd.prog (callFunc 20 #[t31]) w26 fun t32 w27 =>
        Run Tryd.prog (Instr.makeInterface 77 t32) w27 fun t33 w28 =>
        Run Tryd.prog (Instr.buildSlice 35 1 #[(0, t33)]) w28 fun t34 w29 =>
        Run Tryd.prog (Builtin.append_ #[35, 35] 35 #[l_3, t34]) w29 fun t35 w30 =>
        k7 t35 w30)
      (fun (l_3 : Value) (w31 : World) => 
      Run Tryd.prog (binSem Go.BinOp.add 3 (Go.Operand.tmp 26) (Go.Operand.const (Go.Value.int Go.IntKind.i64 1)) t26 (Go.Value.int Go.IntKind.i64 1)) w31 fun t36 w32 =>
      k4 l_3 t36 w32))))
    [t22, (Go.Value.int Go.IntKind.i64 0)] w18)
  (fun (l_3 : Value) (t26 : Value) (w33 : World) => 
  Run Tryd.prog (Instr.fieldAt 32 d_1 4) w33 fun t37 w34 =>
  Run Tryd.prog (Instr.loadAt 30 t37) w34 fun t38 w35 =>
  Run Tryd.prog (Builtin.len_ #[30] 3 #[t38]) w35 fun t39 w36 =>
  JoinP 2 (fun (k8 : N2) =>
    LoopP 2 (fun (k9 : N2) => (fun (l_3 : Value) (t40 : Value) (w37 : World) => 
      Run Tryd.prog (binSem Go.BinOp.lss 3 (Go.Operand.tmp 40) (Go.Operand.tmp 39) t40 t39) w37 fun t41 w38 =>
      CondP t41 0 (fun (k10 : N0) =>
        k10 w38)
      (fun (k11 : N0) =>
        k8 l_3 t40 w38)
      (fun (w39 : World) => 
      JoinP 1 (fun (k12 : N1) =>
        Run Tryd.prog (Instr.indexAt 30 t38 t40) w39 fun t42 w40 =>
        Run Tryd.prog (Instr.loadAt 81 t42) w40 fun t43 w41 =>
        Run Tryd.prog (Instr.alloc 81 true (.tuple #[])) w41 fun t_7 w42 =>
        RunU Tryd.prog (Instr.storeAt 81 t_7 t43) w42 fun w43 =>
        Run Tryd.prog (Instr.loadAt 81 t_7) w43 fun t45 w44 =>
        GoN Tryd.prog (callFunc 21 #[t45]) w44 fun t46 w45 =>
        Run Tryd.prog (Instr.makeInterface 81 t46) w45 fun t47 w46 =>
        Run Tryd.prog (Instr.buildSlice 35 1 #[(0, t47)]) w46 fun t48 w47 =>
        Run Tryd.prog (Builtin.append_ #[35, 35] 35 #[l_3, t48]) w47 fun t49 w48 =>
        k12 t49 w48)
      (fun (l_3 : Value) (w49 : World) => 
      Run Tryd.prog (binSem Go.BinOp.add 3 (Go.Operand.tmp 40) (Go.Operand.const (Go.Value.int Go.IntKind.i64 1)) t40 (Go.Value.int Go.IntKind.i64 1)) w49 fun t50 w50 =>
      k9 l_3 t50 w50))))
    [l_3, (Go.Value.int Go.IntKind.i64 0)] w36)
  (fun (l_3 : Value) (t40 : Value) (w51 : World) => 
  R l_3 w51)))
theorem S5_eq (d_0 : Value) (w : World) (R : Value → World → Prop) : vcFn Tryd.prog Tryd.f5 [d_0] w R = S5 d_0 w R := by kernel_rfl
theorem D5 {d_0 : Value} {w : World} {R : Value → World → Prop} (h : S5 d_0 w R) : Does Tryd.prog 5 [d_0] w R :=
  does_of_vc mixed Tryd.func5 (by kernel_rfl) (by kernel_rfl) ((S5_eq d_0 w R).mpr h)

/-- busbar/busbarlaw05.chosen -/
def S6 (d_0 picks_1 : Value) (w : World) (R : Value → World → Prop) : Prop :=
  Run Tryd.prog (Instr.box 32 d_0) w fun d_2 w1 =>
  Run Tryd.prog (Instr.alloc 32 true (.tuple #[])) w1 fun t6 w2 =>
  Run Tryd.prog (Instr.loadAt 32 d_2) w2 fun t15 w3 =>
  GoN Tryd.prog (callFunc 5 #[t15]) w3 fun t16 w4 =>
  Run Tryd.prog (Instr.loadAt 32 d_2) w4 fun t17 w5 =>
  GoN Tryd.prog (callFunc 15 #[t17]) w5 fun t18 w6 =>
  Run Tryd.prog (Instr.fieldAt 32 d_2 0) w6 fun t19 w7 =>
  Run Tryd.prog (Instr.loadAt 4 t19) w7 fun t20 w8 =>
  CondP t20 1 (fun (k1 : N1) =>
    k1 (Go.Value.int Go.IntKind.i64 1) w8)
  (fun (k2 : N1) =>
    k2 (Go.Value.int Go.IntKind.i64 0) w8)
  (fun (first_9 : Value) (w9 : World) => 
  Run Tryd.prog (Instr.alloc 32 true (.tuple #[])) w9 fun x_12 w10 =>
  JoinP 3 (fun (k3 : N3) =>
    LoopP 3 (fun (k4 : N3) => (fun (l_10 : Value) (k_11 : Value) (i_13 : Value) (w11 : World) => 
      Run Tryd.prog (Builtin.len_ #[33] 3 #[picks_1]) w11 fun t23 w12 =>
      Run Tryd.prog (binSem Go.BinOp.lss 3 (Go.Operand.tmp 21) (Go.Operand.tmp 23) i_13 t23) w12 fun t24 w13 =>
      CondP t24 0 (fun (k5 : N0) =>
        k5 w13)
      (fun (k6 : N0) =>
        k3 l_10 k_11 i_13 w13)
      (fun (w14 : World) => 
      JoinP 2 (fun (k7 : N2) =>
        Run Tryd.prog (Instr.indexAt 33 picks_1 i_13) w14 fun t29 w15 =>
        Run Tryd.prog (Instr.loadAt 3 t29) w15 fun t30 w16 =>
        Run Tryd.prog (Builtin.len_ #[35] 3 #[t16]) w16 fun t32 w17 =>
        Run Tryd.prog (binSem Go.BinOp.add 3 (Go.Operand.tmp 32) (Go.Operand.const (Go.Value.int Go.IntKind.i64 1)) t32 (Go.Value.int Go.IntKind.i64 1)) w17 fun t33 w18 =>
        GoN Tryd.prog (callFunc 22 #[t30, t33]) w18 fun t34 w19 =>
        Run Tryd.prog (Builtin.len_ #[35] 3 #[t16]) w19 fun t37 w20 =>
        Run Tryd.prog (binSem Go.BinOp.geq 3 (Go.Operand.tmp 35) (Go.Operand.tmp 37) t34 t37) w20 fun t38 w21 =>
        CondP t38 2 (fun (k8 : N2) =>
          Run Tryd.prog (Instr.buildSlice 35 1 #[(0, Go.Value.nilIface)]) w21 fun t40 w22 =>
          Run Tryd.prog (Builtin.append_ #[35, 35] 35 #[l_10, t40]) w22 fun t41 w23 =>
          Run Tryd.prog (Instr.buildSlice 33 1 #[(0, (Go.Value.int Go.IntKind.i64 0))]) w23 fun t43 w24 =>
          Run Tryd.prog (Builtin.append_ #[33, 33] 33 #[k_11, t43]) w24 fun t44 w25 =>
          k7 t41 t44 w25)
        (fun (k9 : N2) =>
          k9 l_10 k_11 w21)
        (fun (l_10 : Value) (k_11 : Value) (w26 : World) => 
        Run Tryd.prog (Instr.indexAt 35 t16 t34) w26 fun t48 w27 =>
        Run Tryd.prog (Instr.loadAt 49 t48) w27 fun t49 w28 =>
        Run Tryd.prog (Instr.buildSlice 35 1 #[(0, t49)]) w28 fun t50 w29 =>
        Run Tryd.prog (Builtin.append_ #[35, 35] 35 #[l_10, t50]) w29 fun t51 w30 =>
        Run Tryd.prog (Instr.indexAt 33 t18 t34) w30 fun t55 w31 =>
        Run Tryd.prog (Instr.loadAt 3 t55) w31 fun t56 w32 =>
        Run Tryd.prog (Instr.buildSlice 33 1 #[(0, t56)]) w32 fun t57 w33 =>
        Run Tryd.prog (Builtin.append_ #[33, 33] 33 #[k_11, t57]) w33 fun t58 w34 =>
        Run Tryd.prog (Instr.indexAt 33 t18 t34) w34 fun t61 w35 =>
        Run Tryd.prog (Instr.loadAt 3 t61) w35 fun t62 w36 =>
        JoinP 0 (fun (k10 : N0) =>
          Run Tryd.prog (binSem Go.BinOp.eql 3 (Go.Operand.tmp 62) (Go.Operand.const (Go.Value.int Go.IntKind.i64 1)) t62 (Go.Value.int Go.IntKind.i64 1)) w36 fun t64 w37 =>
          CondP t64 0 (fun (k11 : N0) =>
            Run Tryd.prog (Instr.fieldAt 32 x_12 0) w37 fun t65 w38 =>
            RunU Tryd.prog (Instr.storeAt 4 t65 (Go.Value.bool true)) w38 fun w39 =>
            Run Tryd.prog (Instr.fieldAt 32 d_2 1) w39 fun t66 w40 =>
            Run Tryd.prog (Instr.loadAt 25 t66) w40 fun t67 w41 =>
            Run Tryd.prog (Instr.fieldAt 32 x_12 1) w41 fun t68 w42 =>
            RunU Tryd.prog (Instr.storeAt 25 t68 t67) w42 fun w43 =>
            k11 w43)
          (fun (k12 : N0) =>
            Run Tryd.prog (binSem Go.BinOp.eql 3 (Go.Operand.tmp 62) (Go.Operand.const (Go.Value.int Go.IntKind.i64 2)) t62 (Go.Value.int Go.IntKind.i64 2)) w37 fun t70 w44 =>
            CondP t70 0 (fun (k13 : N0) =>
              Run Tryd.prog (Instr.fieldAt 32 d_2 2) w44 fun t71 w45 =>
              Run Tryd.prog (Instr.loadAt 28 t71) w45 fun t72 w46 =>
              Run Tryd.prog (Instr.fieldAt 32 x_12 2) w46 fun t73 w47 =>
              RunU Tryd.prog (Instr.storeAt 28 t73 t72) w47 fun w48 =>
              k13 w48)
            (fun (k14 : N0) =>
              Run Tryd.prog (binSem Go.BinOp.eql 3 (Go.Operand.tmp 62) (Go.Operand.const (Go.Value.int Go.IntKind.i64 3)) t62 (Go.Value.int Go.IntKind.i64 3)) w44 fun t75 w49 =>
              CondP t75 0 (fun (k15 : N0) =>
                ∀ w50, Ext w49 w50 →
                RunQ Tryd.prog (Instr.fieldAt 32 x_12 3) w50 fun t76 =>
                RunQ Tryd.prog (Instr.loadAt 29 t76) w50 fun t77 =>
                RunQ Tryd.prog (Instr.fieldAt 32 d_2 3) w50 fun t78 =>
                RunQ Tryd.prog (Instr.loadAt 29 t78) w50 fun t79 =>
                RunQ Tryd.prog (binSem Go.BinOp.sub 3 (Go.Operand.tmp 80) (Go.Operand.tmp 81) t34 first_9) w50 fun t82 =>
                RunQ Tryd.prog (binSem Go.BinOp.sub 3 (Go.Operand.tmp 82) (Go.Operand.const (Go.Value.int Go.IntKind.i64 1)) t82 (Go.Value.int Go.IntKind.i64 1)) w50 fun t83 =>
                RunQ Tryd.prog (Instr.indexAt 29 t79 t83) w50 fun t84 =>
                RunQ Tryd.prog (Instr.loadAt 77 t84) w50 fun t85 =>
                Run Tryd.prog (Instr.buildSlice 29 1 #[(0, t85)]) w50 fun t86 w51 => Ext w50 w51 ∧
                Run Tryd.prog (Builtin.append_ #[29, 29] 29 #[t77, t86]) w51 fun t87 w52 =>
                Run Tryd.prog (Instr.fieldAt 32 x_12 3) w52 fun t88 w53 =>
                RunU Tryd.prog (Instr.storeAt 29 t88 t87) w53 fun w54 =>
                k15 w54)
              (fun (k16 : N0) =>
                Run Tryd.prog (binSem Go.BinOp.eql 3 (Go.Operand.tmp 62) (Go.Operand.const (Go.Value.int Go.IntKind.i64 4)) t62 (Go.Value.int Go.IntKind.i64 4)) w49 fun t90 w55 =>
                CondP t90 0 (fun (k17 : N0) =>
                  ∀ w56, Ext w55 w56 →
                  RunQ Tryd.prog (Instr.fieldAt 32 x_12 4) w56 fun t91 =>
                  RunQ Tryd.prog (Instr.loadAt 30 t91) w56 fun t92 =>
                  RunQ Tryd.prog (Instr.fieldAt 32 d_2 4) w56 fun t93 =>
                  RunQ Tryd.prog (Instr.loadAt 30 t93) w56 fun t94 =>
                  RunQ Tryd.prog (binSem Go.BinOp.sub 3 (Go.Operand.tmp 95) (Go.Operand.tmp 96) t34 first_9) w56 fun t97 =>
                  RunQ Tryd.prog (binSem Go.BinOp.sub 3 (Go.Operand.tmp 97) (Go.Operand.const (Go.Value.int Go.IntKind.i64 1)) t97 (Go.Value.int Go.IntKind.i64 1)) w56 fun t98 =>
                  RunQ Tryd.prog (Instr.fieldAt 32 d_2 3) w56 fun t99 =>
                  RunQ Tryd.prog (Instr.loadAt 29 t99) w56 fun t100 =>
                  RunQ Tryd.prog (Builtin.len_ #[29] 3 #[t100]) w56 fun t101 =>
                  RunQ Tryd.prog (binSem Go.BinOp.sub 3 (Go.Operand.tmp 98) (Go.Operand.tmp 101) t98 t101) w56 fun t102 =>
                  RunQ Tryd.prog (Instr.indexAt 30 t94 t102) w56 fun t103 =>
                  RunQ Tryd.prog (Instr.loadAt 81 t103) w56 fun t104 =>
                  Run Tryd.prog (Instr.buildSlice 30 1 #[(0, t104)]) w56 fun t105 w57 => Ext w56 w57 ∧
                  Run Tryd.prog (Builtin.append_ #[30, 30] 30 #[t92, t105]) w57 fun t106 w58 =>
                  Run Tryd.prog (Instr.fieldAt 32 x_12 4) w58 fun t107 w59 =>
                  RunU Tryd.prog (Instr.storeAt 30 t107 t106) w59 fun w60 =>
                  k17 w60)
                (fun (k18 : N0) =>
                  k18 w55)
                (fun (w61 : World) => 
                k16 w61))
              (fun (w62 : World) => 
              k14 w62))
            (fun (w63 : World) => 
            k12 w63))
          (fun (w64 : World) => 
          k10 w64))
        (fun (w65 : World) => 
        k7 t51 t58 w65)))
      (fun (l_10 : Value) (k_11 : Value) (w66 : World) => 
      Run Tryd.prog (binSem Go.BinOp.add 3 (Go.Operand.tmp 25) (Go.Operand.const (Go.Value.int Go.IntKind.i64 1)) i_13 (Go.Value.int Go.IntKind.i64 1)) w66 fun t26 w67 =>
      k4 l_10 k_11 t26 w67))))
    [(Go.Value.slice none 0 0), (Go.Value.slice none 0 0), (Go.Value.int Go.IntKind.i64 0)] w10)
  (fun (l_10 : Value) (k_11 : Value) (i_13 : Value) (w68 : World) => 
  ∀ w69, Ext w68 w69 →
  RunQ Tryd.prog (Instr.loadAt 32 x_12) w69 fun t110 =>
  RunU Tryd.prog (Instr.storeAt 32 t6 t110) w69 fun w70 =>
  resK Tryd.prog t6 32 w70 fun r2 =>
  R (.tuple #[l_10, k_11, r2]) w70))
theorem S6_eq (d_0 picks_1 : Value) (w : World) (R : Value → World → Prop) : vcFn Tryd.prog Tryd.f6 [d_0, picks_1] w R = S6 d_0 picks_1 w R := by kernel_rfl
theorem D6 {d_0 picks_1 : Value} {w : World} {R : Value → World → Prop} (h : S6 d_0 picks_1 w R) : Does Tryd.prog 6 [d_0, picks_1] w R :=
  does_of_vc mixed Tryd.func6 (by kernel_rfl) (by kernel_rfl) ((S6_eq d_0 picks_1 w R).mpr h)

/-- busbar/busbarref05.Order -/
def S7 (l_0 : Value) (w : World) (R : Value → World → Prop) : Prop :=
  JoinP 5 (fun (k1 : N5) =>
    LoopP 5 (fun (k2 : N5) => (fun (t2 : Value) (t3 : Value) (last_4 : Value) (stations_5 : Value) (i_6 : Value) (w1 : World) => 
      Run Tryd.prog (Builtin.len_ #[33] 3 #[l_0]) w1 fun t11 w2 =>
      Run Tryd.prog (binSem Go.BinOp.lss 3 (Go.Operand.tmp 9) (Go.Operand.tmp 11) i_6 t11) w2 fun t12 w3 =>
      CondP t12 0 (fun (k3 : N0) =>
        k3 w3)
      (fun (k4 : N0) =>
        k1 t2 t3 last_4 stations_5 i_6 w3)
      (fun (w4 : World) => 
      JoinP 4 (fun (k5 : N4) =>
        Run Tryd.prog (Instr.indexAt 33 l_0 i_6) w4 fun t17 w5 =>
        Run Tryd.prog (Instr.loadAt 3 t17) w5 fun t18 w6 =>
        Run Tryd.prog (binSem Go.BinOp.eql 3 (Go.Operand.tmp 19) (Go.Operand.const (Go.Value.int Go.IntKind.i64 0)) t18 (Go.Value.int Go.IntKind.i64 0)) w6 fun t20 w7 =>
        GuardP t20 false (fun (k6 : N1) => k6 t18 w7) w7 fun t22 w8 =>
        GuardP t20 false (fun (k7 : N1) => k7 last_4 w8) w8 fun t23 w9 =>
        GuardP t20 false (fun (k8 : N1) => Run Tryd.prog (binSem Go.BinOp.lss 3 (Go.Operand.tmp 22) (Go.Operand.tmp 23) t22 t23) w9 k8) w9 fun t24 w10 =>
        PickP t20 (Go.Value.bool true) t24 w10 fun t25 w11 =>
        GuardP t25 false (fun (k9 : N1) => k9 t18 w11) w11 fun t27 w12 =>
        GuardP t25 false (fun (k10 : N1) => Run Tryd.prog (binSem Go.BinOp.eql 3 (Go.Operand.tmp 27) (Go.Operand.const (Go.Value.int Go.IntKind.i64 1)) t27 (Go.Value.int Go.IntKind.i64 1)) w12 k10) w12 fun t28 w13 =>
        GuardP t25 false (fun (k11 : N1) => k11 t28 w13) w13 fun t29 w14 =>
        GuardP t29 true (fun (k12 : N1) => k12 i_6 w14) w14 fun t30 w15 =>
        GuardP t29 true (fun (k13 : N1) => Run Tryd.prog (binSem Go.BinOp.gtr 3 (Go.Operand.tmp 30) (Go.Operand.const (Go.Value.int Go.IntKind.i64 0)) t30 (Go.Value.int Go.IntKind.i64 0)) w15 k13) w15 fun t31 w16 =>
        GuardP t25 false (fun (k14 : N1) => PickP t29 t31 (Go.Value.bool false) w16 k14) w16 fun t32 w17 =>
        PickP t25 (Go.Value.bool true) t32 w17 fun t33 w18 =>
        GuardP t33 false (fun (k15 : N1) => k15 t18 w18) w18 fun t35 w19 =>
        GuardP t33 false (fun (k16 : N1) => Run Tryd.prog (binSem Go.BinOp.eql 3 (Go.Operand.tmp 35) (Go.Operand.const (Go.Value.int Go.IntKind.i64 2)) t35 (Go.Value.int Go.IntKind.i64 2)) w19 k16) w19 fun t36 w20 =>
        GuardP t33 false (fun (k17 : N1) => k17 t36 w20) w20 fun t37 w21 =>
        GuardP t37 true (fun (k18 : N1) => k18 stations_5 w21) w21 fun t38 w22 =>
        GuardP t33 false (fun (k19 : N1) => PickP t37 t38 (Go.Value.bool false) w22 k19) w22 fun t39 w23 =>
        PickP t33 (Go.Value.bool true) t39 w23 fun t40 w24 =>
        GuardP t40 false (fun (k20 : N1) => k20 t18 w24) w24 fun t42 w25 =>
        GuardP t40 false (fun (k21 : N1) => Run Tryd.prog (binSem Go.BinOp.gtr 3 (Go.Operand.tmp 42) (Go.Operand.const (Go.Value.int Go.IntKind.i64 2)) t42 (Go.Value.int Go.IntKind.i64 2)) w25 k21) w25 fun t43 w26 =>
        GuardP t40 false (fun (k22 : N1) => k22 t43 w26) w26 fun t44 w27 =>
        GuardP t44 true (fun (k23 : N1) => k23 stations_5 w27) w27 fun t45 w28 =>
        GuardP t44 true (fun (k24 : N1) => Run Tryd.prog (Op.unary Go.UnOp.not t45) w28 k24) w28 fun t46 w29 =>
        GuardP t40 false (fun (k25 : N1) => PickP t44 t46 (Go.Value.bool false) w29 k25) w29 fun t47 w30 =>
        PickP t40 (Go.Value.bool true) t47 w30 fun t48 w31 =>
        CondP t48 2 (fun (k26 : N2) =>
          R (.tuple #[(Go.Value.int Go.IntKind.i64 4), i_6]) w31)
        (fun (k27 : N2) =>
          k27 t2 t3 w31)
        (fun (t2 : Value) (t3 : Value) (w32 : World) => 
        GuardP stations_5 false (fun (k28 : N1) => k28 t18 w32) w32 fun t54 w33 =>
        GuardP stations_5 false (fun (k29 : N1) => Run Tryd.prog (binSem Go.BinOp.eql 3 (Go.Operand.tmp 54) (Go.Operand.const (Go.Value.int Go.IntKind.i64 2)) t54 (Go.Value.int Go.IntKind.i64 2)) w33 k29) w33 fun t55 w34 =>
        PickP stations_5 (Go.Value.bool true) t55 w34 fun t56 w35 =>
        k5 t2 t3 t18 t56 w35))
      (fun (t2 : Value) (t3 : Value) (last_4 : Value) (stations_5 : Value) (w36 : World) => 
      Run Tryd.prog (binSem Go.BinOp.add 3 (Go.Operand.tmp 13) (Go.Operand.const (Go.Value.int Go.IntKind.i64 1)) i_6 (Go.Value.int Go.IntKind.i64 1)) w36 fun t14 w37 =>
      k2 t2 t3 last_4 stations_5 t14 w37))))
    [(Go.Value.int Go.IntKind.i64 0), (Go.Value.int Go.IntKind.i64 0), (Go.Value.int Go.IntKind.i64 0), (Go.Value.bool false), (Go.Value.int Go.IntKind.i64 0)] w)
  (fun (t2 : Value) (t3 : Value) (last_4 : Value) (stations_5 : Value) (i_6 : Value) (w38 : World) => 
  Run Tryd.prog (Op.unary Go.UnOp.not stations_5) w38 fun t58 w39 =>
  CondP t58 2 (fun (k30 : N2) =>
    Run Tryd.prog (Builtin.len_ #[33] 3 #[l_0]) w39 fun t60 w40 =>
    R (.tuple #[(Go.Value.int Go.IntKind.i64 2), t60]) w40)
  (fun (k31 : N2) =>
    k31 t2 t3 w39)
  (fun (t2 : Value) (t3 : Value) (w41 : World) => 
  R (.tuple #[(Go.Value.int Go.IntKind.i64 0), (Go.Value.int Go.IntKind.i64 0)]) w41))
theorem S7_eq (l_0 : Value) (w : World) (R : Value → World → Prop) : vcFn Tryd.prog Tryd.f7 [l_0] w R = S7 l_0 w R := by kernel_rfl
theorem D7 {l_0 : Value} {w : World} {R : Value → World → Prop} (h : S7 l_0 w R) : Does Tryd.prog 7 [l_0] w R :=
  does_of_vc mixed Tryd.func7 (by kernel_rfl) (by kernel_rfl) ((S7_eq l_0 w R).mpr h)

/-- busbar/node.Gather -/
def S8 (l_0 : Value) (w : World) (R : Value → World → Prop) : Prop :=
  Run Tryd.prog (Instr.alloc 32 true (.tuple #[])) w fun t2 w1 =>
  Run Tryd.prog (Instr.alloc 32 true (.tuple #[])) w1 fun d_4 w2 =>
  Run Tryd.prog (Builtin.len_ #[35] 3 #[l_0]) w2 fun t15 w3 =>
  JoinP 3 (fun (k1 : N3) =>
    LoopP 3 (fun (k2 : N3) => (fun (t3 : Value) (last_5 : Value) (t16 : Value) (w4 : World) => 
      Run Tryd.prog (binSem Go.BinOp.lss 3 (Go.Operand.tmp 16) (Go.Operand.tmp 15) t16 t15) w4 fun t17 w5 =>
      CondP t17 0 (fun (k3 : N0) =>
        k3 w5)
      (fun (k4 : N0) =>
        k1 t3 last_5 t16 w5)
      (fun (w6 : World) => 
      JoinP 2 (fun (k5 : N2) =>
        Run Tryd.prog (Instr.indexAt 35 l_0 t16) w6 fun t19 w7 =>
        Run Tryd.prog (Instr.loadAt 49 t19) w7 fun t20 w8 =>
        GoN Tryd.prog (callFunc 23 #[t20]) w8 fun t22 w9 =>
        Run Tryd.prog (Instr.field 92 t22 0) w9 fun t23 w10 =>
        Run Tryd.prog (binSem Go.BinOp.geq 3 (Go.Operand.tmp 24) (Go.Operand.const (Go.Value.int Go.IntKind.i64 2)) last_5 (Go.Value.int Go.IntKind.i64 2)) w10 fun t25 w11 =>
        Run Tryd.prog (binSem Go.BinOp.eql 3 (Go.Operand.tmp 26) (Go.Operand.const (Go.Value.int Go.IntKind.i64 0)) t23 (Go.Value.int Go.IntKind.i64 0)) w11 fun t27 w12 =>
        GuardP t27 false (fun (k6 : N1) => k6 t23 w12) w12 fun t29 w13 =>
        GuardP t27 false (fun (k7 : N1) => k7 last_5 w13) w13 fun t30 w14 =>
        GuardP t27 false (fun (k8 : N1) => Run Tryd.prog (binSem Go.BinOp.lss 3 (Go.Operand.tmp 29) (Go.Operand.tmp 30) t29 t30) w14 k8) w14 fun t31 w15 =>
        PickP t27 (Go.Value.bool true) t31 w15 fun t32 w16 =>
        GuardP t32 false (fun (k9 : N1) => k9 t23 w16) w16 fun t34 w17 =>
        GuardP t32 false (fun (k10 : N1) => Run Tryd.prog (binSem Go.BinOp.eql 3 (Go.Operand.tmp 34) (Go.Operand.const (Go.Value.int Go.IntKind.i64 1)) t34 (Go.Value.int Go.IntKind.i64 1)) w17 k10) w17 fun t35 w18 =>
        GuardP t32 false (fun (k11 : N1) => k11 t35 w18) w18 fun t36 w19 =>
        GuardP t36 true (fun (k12 : N1) => k12 t16 w19) w19 fun t37 w20 =>
        GuardP t36 true (fun (k13 : N1) => Run Tryd.prog (binSem Go.BinOp.gtr 3 (Go.Operand.tmp 37) (Go.Operand.const (Go.Value.int Go.IntKind.i64 0)) t37 (Go.Value.int Go.IntKind.i64 0)) w20 k13) w20 fun t38 w21 =>
        GuardP t32 false (fun (k14 : N1) => PickP t36 t38 (Go.Value.bool false) w21 k14) w21 fun t39 w22 =>
        PickP t32 (Go.Value.bool true) t39 w22 fun t40 w23 =>
        GuardP t40 false (fun (k15 : N1) => k15 t23 w23) w23 fun t42 w24 =>
        GuardP t40 false (fun (k16 : N1) => Run Tryd.prog (binSem Go.BinOp.eql 3 (Go.Operand.tmp 42) (Go.Operand.const (Go.Value.int Go.IntKind.i64 2)) t42 (Go.Value.int Go.IntKind.i64 2)) w24 k16) w24 fun t43 w25 =>
        GuardP t40 false (fun (k17 : N1) => k17 t43 w25) w25 fun t44 w26 =>
        GuardP t44 true (fun (k18 : N1) => k18 t25 w26) w26 fun t45 w27 =>
        GuardP t40 false (fun (k19 : N1) => PickP t44 t45 (Go.Value.bool false) w27 k19) w27 fun t46 w28 =>
        PickP t40 (Go.Value.bool true) t46 w28 fun t47 w29 =>
        GuardP t47 false (fun (k20 : N1) => k20 t23 w29) w29 fun t49 w30 =>
        GuardP t47 false (fun (k21 : N1) => Run Tryd.prog (binSem Go.BinOp.gtr 3 (Go.Operand.tmp 49) (Go.Operand.const (Go.Value.int Go.IntKind.i64 2)) t49 (Go.Value.int Go.IntKind.i64 2)) w30 k21) w30 fun t50 w31 =>
        GuardP t47 false (fun (k22 : N1) => k22 t50 w31) w31 fun t51 w32 =>
        GuardP t51 true (fun (k23 : N1) => k23 t25 w32) w32 fun t52 w33 =>
        GuardP t51 true (fun (k24 : N1) => Run Tryd.prog (Op.unary Go.UnOp.not t52) w33 k24) w33 fun t53 w34 =>
        GuardP t47 false (fun (k25 : N1) => PickP t51 t53 (Go.Value.bool false) w34 k25) w34 fun t54 w35 =>
        PickP t47 (Go.Value.bool true) t54 w35 fun t55 w36 =>
        CondP t55 1 (fun (k26 : N1) =>
          Run Tryd.prog (Instr.build 32 #[]) w36 fun t56 w37 =>
          Run Tryd.prog (Instr.build 96 #[(0, (Go.Value.int Go.IntKind.i64 4)), (2, t16)]) w37 fun t58 w38 =>
          Run Tryd.prog (Instr.makeInterface 96 t58) w38 fun t59 w39 =>
          RunU Tryd.prog (Instr.storeAt 32 t2 t56) w39 fun w40 =>
          resK Tryd.prog t2 32 w40 fun r0 =>
          R (.tuple #[r0, t59]) w40)
        (fun (k27 : N1) =>
          k27 t3 w36)
        (fun (t3 : Value) (w41 : World) => 
        JoinP 0 (fun (k28 : N0) =>
          Run Tryd.prog (Instr.typeAssert t20 49 25 true) w41 fun t62 w42 =>
          Run Tryd.prog (Instr.extract t62 1) w42 fun t63 w43 =>
          Run Tryd.prog (Instr.extract t62 0) w43 fun t64 w44 =>
          CondP t63 0 (fun (k29 : N0) =>
            Run Tryd.prog (Instr.alloc 25 true (.tuple #[])) w44 fun x_10 w45 =>
            RunU Tryd.prog (Instr.storeAt 25 x_10 t64) w45 fun w46 =>
            ∀ w47, Ext w46 w47 →
            DrawE (fun (E : World → Prop) =>
            RunG Tryd.prog (Instr.loadAt 25 x_10) E fun t65 =>
            RunG Tryd.prog (Instr.fieldAt 32 d_4 0) E fun t66 =>
            RunU Tryd.prog (Instr.storeAt 4 t66 (Go.Value.bool true)) w47 fun w48 => E w48 ∧
            RunG Tryd.prog (Instr.fieldAt 32 d_4 1) E fun t67 =>
            RunU Tryd.prog (Instr.storeAt 25 t67 t65) w48 fun w49 => E w49 ∧
            k29 w49) w47)
          (fun (k30 : N0) =>
            Run Tryd.prog (Instr.typeAssert t20 49 28 true) w44 fun t68 w50 =>
            Run Tryd.prog (Instr.extract t68 1) w50 fun t69 w51 =>
            Run Tryd.prog (Instr.extract t68 0) w51 fun t70 w52 =>
            CondP t69 0 (fun (k31 : N0) =>
              Run Tryd.prog (Instr.alloc 28 true (.tuple #[])) w52 fun x_11 w53 =>
              RunU Tryd.prog (Instr.storeAt 28 x_11 t70) w53 fun w54 =>
              Run Tryd.prog (Instr.loadAt 28 x_11) w54 fun t71 w55 =>
              GoN Tryd.prog (callFunc 19 #[t71]) w55 fun t72 w56 =>
              Run Tryd.prog (Instr.fieldAt 32 d_4 2) w56 fun t73 w57 =>
              RunU Tryd.prog (Instr.storeAt 28 t73 t72) w57 fun w58 =>
              k31 w58)
            (fun (k32 : N0) =>
              Run Tryd.prog (Instr.typeAssert t20 49 77 true) w52 fun t74 w59 =>
              Run Tryd.prog (Instr.extract t74 1) w59 fun t75 w60 =>
              Run Tryd.prog (Instr.extract t74 0) w60 fun t76 w61 =>
              CondP t75 0 (fun (k33 : N0) =>
                Run Tryd.prog (Instr.alloc 77 true (.tuple #[])) w61 fun x_12 w62 =>
                RunU Tryd.prog (Instr.storeAt 77 x_12 t76) w62 fun w63 =>
                ∀ w64, Ext w63 w64 →
                RunQ Tryd.prog (Instr.fieldAt 32 d_4 3) w64 fun t77 =>
                RunQ Tryd.prog (Instr.loadAt 29 t77) w64 fun t78 =>
                RunQ Tryd.prog (Instr.loadAt 77 x_12) w64 fun t79 =>
                GoN Tryd.prog (callFunc 20 #[t79]) w64 fun t80 w65 => Ext w64 w65 ∧
                Run Tryd.prog (Instr.buildSlice 29 1 #[(0, t80)]) w65 fun t81 w66 => Ext w64 w66 ∧
                Run Tryd.prog (Builtin.append_ #[29, 29] 29 #[t78, t81]) w66 fun t82 w67 =>
                Run Tryd.prog (Instr.fieldAt 32 d_4 3) w67 fun t83 w68 =>
                RunU Tryd.prog (Instr.storeAt 29 t83 t82) w68 fun w69 =>
                k33 w69)
              (fun (k34 : N0) =>
                Run Tryd.prog (Instr.typeAssert t20 49 81 true) w61 fun t84 w70 =>
                Run Tryd.prog (Instr.extract t84 1) w70 fun t85 w71 =>
                Run Tryd.prog (Instr.extract t84 0) w71 fun t86 w72 =>
                CondP t85 0 (fun (k35 : N0) =>
                  Run Tryd.prog (Instr.alloc 81 true (.tuple #[])) w72 fun x_13 w73 =>
                  RunU Tryd.prog (Instr.storeAt 81 x_13 t86) w73 fun w74 =>
                  ∀ w75, Ext w74 w75 →
                  RunQ Tryd.prog (Instr.fieldAt 32 d_4 4) w75 fun t87 =>
                  RunQ Tryd.prog (Instr.loadAt 30 t87) w75 fun t88 =>
                  RunQ Tryd.prog (Instr.loadAt 81 x_13) w75 fun t89 =>
                  GoN Tryd.prog (callFunc 21 #[t89]) w75 fun t90 w76 => Ext w75 w76 ∧
                  Run Tryd.prog (Instr.buildSlice 30 1 #[(0, t90)]) w76 fun t91 w77 => Ext w75 w77 ∧
                  Run Tryd.prog (Builtin.append_ #[30, 30] 30 #[t88, t91]) w77 fun t92 w78 =>
                  Run Tryd.prog (Instr.fieldAt 32 d_4 4) w78 fun t93 w79 =>
                  RunU Tryd.prog (Instr.storeAt 30 t93 t92) w79 fun w80 =>
                  k35 w80)
                (fun (k36 : N0) =>
                  k36 w72)
                (fun (w81 : World) => 
                k34 w81))
              (fun (w82 : World) => 
              k32 w82))
            (fun (w83 : World) => 
            k30 w83))
          (fun (w84 : World) => 
          k28 w84))
        (fun (w85 : World) => 
        k5 t3 t23 w85)))
      (fun (t3 : Value) (last_5 : Value) (w86 : World) => 
      Run Tryd.prog (binSem Go.BinOp.add 3 (Go.Operand.tmp 16) (Go.Operand.const (Go.Value.int Go.IntKind.i64 1)) t16 (Go.Value.int Go.IntKind.i64 1)) w86 fun t94 w87 =>
      k2 t3 last_5 t94 w87))))
    [Go.Value.nilIface, (Go.Value.int Go.IntKind.i64 0), (Go.Value.int Go.IntKind.i64 0)] w3)
  (fun (t3 : Value) (last_5 : Value) (t16 : Value) (w88 : World) => 
  Run Tryd.prog (binSem Go.BinOp.lss 3 (Go.Operand.tmp 95) (Go.Operand.const (Go.Value.int Go.IntKind.i64 2)) last_5 (Go.Value.int Go.IntKind.i64 2)) w88 fun t96 w89 =>
  CondP t96 1 (fun (k37 : N1) =>
    Run Tryd.prog (Instr.build 32 #[]) w89 fun t97 w90 =>
    Run Tryd.prog (Builtin.len_ #[35] 3 #[l_0]) w90 fun t99 w91 =>
    Run Tryd.prog (Instr.build 96 #[(0, (Go.Value.int Go.IntKind.i64 2)), (2, t99)]) w91 fun t100 w92 =>
    Run Tryd.prog (Instr.makeInterface 96 t100) w92 fun t101 w93 =>
    RunU Tryd.prog (Instr.storeAt 32 t2 t97) w93 fun w94 =>
    resK Tryd.prog t2 32 w94 fun r0 =>
    R (.tuple #[r0, t101]) w94)
  (fun (k38 : N1) =>
    k38 t3 w89)
  (fun (t3 : Value) (w95 : World) => 
  Run Tryd.prog (Instr.loadAt 32 d_4) w95 fun t102 w96 =>
  RunU Tryd.prog (Instr.storeAt 32 t2 t102) w96 fun w97 =>
  resK Tryd.prog t2 32 w97 fun r0 =>
  R (.tuple #[r0, Go.Value.nilIface]) w97))
theorem S8_eq (l_0 : Value) (w : World) (R : Value → World → Prop) : vcFn Tryd.prog Tryd.f8 [l_0] w R = S8 l_0 w R := by kernel_rfl
theorem D8 {l_0 : Value} {w : World} {R : Value → World → Prop} (h : S8 l_0 w R) : Does Tryd.prog 8 [l_0] w R :=
  does_of_vc mixed Tryd.func8 (by kernel_rfl) (by kernel_rfl) ((S8_eq l_0 w R).mpr h)

/-- busbar/busbarkit.At -/
def S9 (e_0 n_1 line_2 at_3 : Value) (w : World) (R : Value → World → Prop) : Prop :=
  Run Tryd.prog (binSem Go.BinOp.eql 3 (Go.Operand.tmp 12) (Go.Operand.const (Go.Value.int Go.IntKind.i64 0)) n_1 (Go.Value.int Go.IntKind.i64 0)) w fun t13 w1 =>
  CondP t13 1 (fun (k1 : N1) =>
    Run Tryd.prog (binSem Go.BinOp.eql 42 (Go.Operand.tmp 14) (Go.Operand.const Go.Value.nilIface) e_0 Go.Value.nilIface) w1 fun t15 w2 =>
    R t15 w2)
  (fun (k2 : N1) =>
    k2 (Go.Value.bool false) w1)
  (fun (t8 : Value) (w3 : World) => 
  GoN Tryd.prog (callFunc 24 #[e_0]) w3 fun t18 w4 =>
  Run Tryd.prog (Instr.extract t18 0) w4 fun t19 w5 =>
  Run Tryd.prog (Instr.extract t18 1) w5 fun t20 w6 =>
  Run Tryd.prog (Instr.extract t18 2) w6 fun t21 w7 =>
  GoN Tryd.prog (callFunc 25 #[e_0]) w7 fun t23 w8 =>
  Run Tryd.prog (binSem Go.BinOp.eql 3 (Go.Operand.tmp 23) (Go.Operand.tmp 24) t23 n_1) w8 fun t25 w9 =>
  GuardP t25 true (fun (k3 : N1) => k3 t21 w9) w9 fun t27 w10 =>
  PickP t25 t27 (Go.Value.bool false) w10 fun t28 w11 =>
  GuardP t28 true (fun (k4 : N1) => k4 t19 w11) w11 fun t30 w12 =>
  GuardP t28 true (fun (k5 : N1) => k5 line_2 w12) w12 fun t31 w13 =>
  GuardP t28 true (fun (k6 : N1) => Run Tryd.prog (binSem Go.BinOp.eql 3 (Go.Operand.tmp 30) (Go.Operand.tmp 31) t30 t31) w13 k6) w13 fun t32 w14 =>
  PickP t28 t32 (Go.Value.bool false) w14 fun t33 w15 =>
  GuardP t33 true (fun (k7 : N1) => k7 t20 w15) w15 fun t35 w16 =>
  GuardP t33 true (fun (k8 : N1) => k8 at_3 w16) w16 fun t36 w17 =>
  GuardP t33 true (fun (k9 : N1) => Run Tryd.prog (binSem Go.BinOp.eql 3 (Go.Operand.tmp 35) (Go.Operand.tmp 36) t35 t36) w17 k9) w17 fun t37 w18 =>
  PickP t33 t37 (Go.Value.bool false) w18 fun t38 w19 =>
  R t38 w19)
theorem S9_eq (e_0 n_1 line_2 at_3 : Value) (w : World) (R : Value → World → Prop) : vcFn Tryd.prog Tryd.f9 [e_0, n_1, line_2, at_3] w R = S9 e_0 n_1 line_2 at_3 w R := by kernel_rfl
theorem D9 {e_0 n_1 line_2 at_3 : Value} {w : World} {R : Value → World → Prop} (h : S9 e_0 n_1 line_2 at_3 w R) : Does Tryd.prog 9 [e_0, n_1, line_2, at_3] w R :=
  does_of_vc mixed Tryd.func9 (by kernel_rfl) (by kernel_rfl) ((S9_eq e_0 n_1 line_2 at_3 w R).mpr h)

/-- busbar/busbarref0.SameDatabase -/
def S10 (a_0 b_1 : Value) (w : World) (R : Value → World → Prop) : Prop :=
  Run Tryd.prog (Instr.box 32 a_0) w fun a_2 w1 =>
  Run Tryd.prog (Instr.box 32 b_1) w1 fun b_3 w2 =>
  Run Tryd.prog (Instr.fieldAt 32 a_2 0) w2 fun t5 w3 =>
  Run Tryd.prog (Instr.loadAt 4 t5) w3 fun t6 w4 =>
  Run Tryd.prog (Instr.fieldAt 32 b_3 0) w4 fun t7 w5 =>
  Run Tryd.prog (Instr.loadAt 4 t7) w5 fun t8 w6 =>
  Run Tryd.prog (binSem Go.BinOp.eql 4 (Go.Operand.tmp 6) (Go.Operand.tmp 8) t6 t8) w6 fun t9 w7 =>
  GuardP t9 true (fun (k1 : N1) => Run Tryd.prog (Instr.fieldAt 32 a_2 1) w7 k1) w7 fun t11 w8 =>
  GuardP t9 true (fun (k2 : N1) => Run Tryd.prog (Instr.loadAt 25 t11) w8 k2) w8 fun t12 w9 =>
  GuardP t9 true (fun (k3 : N1) => Run Tryd.prog (Instr.fieldAt 32 b_3 1) w9 k3) w9 fun t13 w10 =>
  GuardP t9 true (fun (k4 : N1) => Run Tryd.prog (Instr.loadAt 25 t13) w10 k4) w10 fun t14 w11 =>
  GuardP t9 true (fun (k5 : N1) => Run Tryd.prog (binSem Go.BinOp.eql 25 (Go.Operand.tmp 12) (Go.Operand.tmp 14) t12 t14) w11 k5) w11 fun t15 w12 =>
  PickP t9 t15 (Go.Value.bool false) w12 fun t16 w13 =>
  GuardP t16 true (fun (k6 : N1) => Run Tryd.prog (Instr.fieldAt 32 a_2 3) w13 k6) w13 fun t18 w14 =>
  GuardP t16 true (fun (k7 : N1) => Run Tryd.prog (Instr.loadAt 29 t18) w14 k7) w14 fun t19 w15 =>
  GuardP t16 true (fun (k8 : N1) => Run Tryd.prog (Instr.fieldAt 32 b_3 3) w15 k8) w15 fun t20 w16 =>
  GuardP t16 true (fun (k9 : N1) => Run Tryd.prog (Instr.loadAt 29 t20) w16 k9) w16 fun t21 w17 =>
  GuardP t16 true (fun (k10 : N1) => GoN Tryd.prog (callFunc 26 #[t19, t21]) w17 k10) w17 fun t22 w18 =>
  PickP t16 t22 (Go.Value.bool false) w18 fun t23 w19 =>
  GuardP t23 true (fun (k11 : N1) => Run Tryd.prog (Instr.fieldAt 32 a_2 4) w19 k11) w19 fun t25 w20 =>
  GuardP t23 true (fun (k12 : N1) => Run Tryd.prog (Instr.loadAt 30 t25) w20 k12) w20 fun t26 w21 =>
  GuardP t23 true (fun (k13 : N1) => Run Tryd.prog (Instr.fieldAt 32 b_3 4) w21 k13) w21 fun t27 w22 =>
  GuardP t23 true (fun (k14 : N1) => Run Tryd.prog (Instr.loadAt 30 t27) w22 k14) w22 fun t28 w23 =>
  GuardP t23 true (fun (k15 : N1) => GoN Tryd.prog (callFunc 27 #[t26, t28]) w23 k15) w23 fun t29 w24 =>
  PickP t23 t29 (Go.Value.bool false) w24 fun t30 w25 =>
  GuardP t30 true (fun (k16 : N1) => Run Tryd.prog (Instr.fieldAt 32 a_2 2) w25 k16) w25 fun t32 w26 =>
  GuardP t30 true (fun (k17 : N1) => Run Tryd.prog (Instr.loadAt 28 t32) w26 k17) w26 fun t33 w27 =>
  GuardP t30 true (fun (k18 : N1) => Run Tryd.prog (Instr.fieldAt 32 b_3 2) w27 k18) w27 fun t34 w28 =>
  GuardP t30 true (fun (k19 : N1) => Run Tryd.prog (Instr.loadAt 28 t34) w28 k19) w28 fun t35 w29 =>
  GuardP t30 true (fun (k20 : N1) => GoN Tryd.prog (callFunc 16 #[t33, t35]) w29 k20) w29 fun t36 w30 =>
  PickP t30 t36 (Go.Value.bool false) w30 fun t37 w31 =>
  R t37 w31
theorem S10_eq (a_0 b_1 : Value) (w : World) (R : Value → World → Prop) : vcFn Tryd.prog Tryd.f10 [a_0, b_1] w R = S10 a_0 b_1 w R := by kernel_rfl
theorem D10 {a_0 b_1 : Value} {w : World} {R : Value → World → Prop} (h : S10 a_0 b_1 w R) : Does Tryd.prog 10 [a_0, b_1] w R :=
  does_of_vc mixed Tryd.func10 (by kernel_rfl) (by kernel_rfl) ((S10_eq a_0 b_1 w R).mpr h)

/-- busbar/node.Kind -/
def S11 (n_0 : Value) (w : World) (R : Value → World → Prop) : Prop :=
  GoN Tryd.prog (callFunc 23 #[n_0]) w fun t4 w1 =>
  Run Tryd.prog (Instr.field 92 t4 1) w1 fun t5 w2 =>
  R t5 w2
theorem S11_eq (n_0 : Value) (w : World) (R : Value → World → Prop) : vcFn Tryd.prog Tryd.f11 [n_0] w R = S11 n_0 w R := by kernel_rfl
theorem D11 {n_0 : Value} {w : World} {R : Value → World → Prop} (h : S11 n_0 w R) : Does Tryd.prog 11 [n_0] w R :=
  does_of_vc mixed Tryd.func11 (by kernel_rfl) (by kernel_rfl) ((S11_eq n_0 w R).mpr h)

/-- busbar/busbarref05.Name -/
def S12 (kind_0 : Value) (w : World) (R : Value → World → Prop) : Prop :=
  JoinP 1 (fun (k1 : N1) =>
    Run Tryd.prog (binSem Go.BinOp.eql 3 (Go.Operand.tmp 3) (Go.Operand.const (Go.Value.int Go.IntKind.i64 1)) kind_0 (Go.Value.int Go.IntKind.i64 1)) w fun t5 w1 =>
    CondP t5 1 (fun (k2 : N1) =>
      R (Go.Value.string { data := #[118, 101, 114, 115, 105, 111, 110] }) w1)
    (fun (k3 : N1) =>
      Run Tryd.prog (binSem Go.BinOp.eql 3 (Go.Operand.tmp 3) (Go.Operand.const (Go.Value.int Go.IntKind.i64 2)) kind_0 (Go.Value.int Go.IntKind.i64 2)) w1 fun t7 w2 =>
      CondP t7 1 (fun (k4 : N1) =>
        R (Go.Value.string { data := #[115, 116, 97, 116, 105, 111, 110, 115] }) w2)
      (fun (k5 : N1) =>
        Run Tryd.prog (binSem Go.BinOp.eql 3 (Go.Operand.tmp 3) (Go.Operand.const (Go.Value.int Go.IntKind.i64 3)) kind_0 (Go.Value.int Go.IntKind.i64 3)) w2 fun t9 w3 =>
        CondP t9 1 (fun (k6 : N1) =>
          R (Go.Value.string { data := #[109, 101, 115, 115, 97, 103, 101] }) w3)
        (fun (k7 : N1) =>
          Run Tryd.prog (binSem Go.BinOp.eql 3 (Go.Operand.tmp 3) (Go.Operand.const (Go.Value.int Go.IntKind.i64 4)) kind_0 (Go.Value.int Go.IntKind.i64 4)) w3 fun t11 w4 =>
          CondP t11 1 (fun (k8 : N1) =>
            R (Go.Value.string { data := #[116, 97, 98, 108, 101] }) w4)
          (fun (k9 : N1) =>
            k9 (Go.Value.string { data := #[] }) w4)
          (fun (t2 : Value) (w5 : World) => 
          k7 t2 w5))
        (fun (t2 : Value) (w6 : World) => 
        k5 t2 w6))
      (fun (t2 : Value) (w7 : World) => 
      k3 t2 w7))
    (fun (t2 : Value) (w8 : World) => 
    k1 t2 w8))
  (fun (t2 : Value) (w9 : World) => 
  R (Go.Value.string { data := #[] }) w9)
theorem S12_eq (kind_0 : Value) (w : World) (R : Value → World → Prop) : vcFn Tryd.prog Tryd.f12 [kind_0] w R = S12 kind_0 w R := by kernel_rfl
theorem D12 {kind_0 : Value} {w : World} {R : Value → World → Prop} (h : S12 kind_0 w R) : Does Tryd.prog 12 [kind_0] w R :=
  does_of_vc mixed Tryd.func12 (by kernel_rfl) (by kernel_rfl) ((S12_eq kind_0 w R).mpr h)

/-- (*busbar/busbarkit.Book).Database -/
def S13 (b_0 s_1 : Value) (w : World) (R : Value → World → Prop) : Prop :=
  Run Tryd.prog (Instr.box 32 s_1) w fun s_3 w1 =>
  Run Tryd.prog (Instr.fieldAt 32 s_3 3) w1 fun t5 w2 =>
  Run Tryd.prog (Instr.loadAt 29 t5) w2 fun t6 w3 =>
  GoN Tryd.prog (callFunc 28 #[b_0, t6]) w3 fun t7 w4 =>
  Run Tryd.prog (Instr.fieldAt 32 s_3 4) w4 fun t9 w5 =>
  Run Tryd.prog (Instr.loadAt 30 t9) w5 fun t10 w6 =>
  GoN Tryd.prog (callFunc 29 #[b_0, t10]) w6 fun t11 w7 =>
  Run Tryd.prog (Instr.fieldAt 32 s_3 2) w7 fun t13 w8 =>
  Run Tryd.prog (Instr.loadAt 28 t13) w8 fun t14 w9 =>
  GoN Tryd.prog (callFunc 30 #[b_0, t14]) w9 fun t15 w10 =>
  R (.tuple #[]) w10
theorem S13_eq (b_0 s_1 : Value) (w : World) (R : Value → World → Prop) : vcFn Tryd.prog Tryd.f13 [b_0, s_1] w R = S13 b_0 s_1 w R := by kernel_rfl
theorem D13 {b_0 s_1 : Value} {w : World} {R : Value → World → Prop} (h : S13 b_0 s_1 w R) : Does Tryd.prog 13 [b_0, s_1] w R :=
  does_of_vc mixed Tryd.func13 (by kernel_rfl) (by kernel_rfl) ((S13_eq b_0 s_1 w R).mpr h)

/-- (*busbar/busbarkit.Book).Apart -/
def S14 (b_0 : Value) (w : World) (R : Value → World → Prop) : Prop :=
  Run Tryd.prog (nilSem b_0) w fun t6 w1 =>
  Run Tryd.prog (Instr.fieldAt 67 t6 0) w1 fun t7 w2 =>
  Run Tryd.prog (Instr.loadAt 51 t7) w2 fun t8 w3 =>
  GoN Tryd.prog (callFunc 31 #[t8]) w3 fun t9 w4 =>
  GuardP t9 true (fun (k1 : N1) => k1 b_0 w4) w4 fun t11 w5 =>
  GuardP t9 true (fun (k2 : N1) => Run Tryd.prog (nilSem t11) w5 k2) w5 fun t12 w6 =>
  GuardP t9 true (fun (k3 : N1) => Run Tryd.prog (Instr.fieldAt 67 t12 1) w6 k3) w6 fun t13 w7 =>
  GuardP t9 true (fun (k4 : N1) => Run Tryd.prog (Instr.loadAt 52 t13) w7 k4) w7 fun t14 w8 =>
  GuardP t9 true (fun (k5 : N1) => GoN Tryd.prog (callFunc 32 #[t14]) w8 k5) w8 fun t15 w9 =>
  PickP t9 t15 (Go.Value.bool false) w9 fun t16 w10 =>
  GuardP t16 true (fun (k6 : N1) => k6 b_0 w10) w10 fun t18 w11 =>
  GuardP t16 true (fun (k7 : N1) => Run Tryd.prog (nilSem t18) w11 k7) w11 fun t19 w12 =>
  GuardP t16 true (fun (k8 : N1) => Run Tryd.prog (Instr.fieldAt 67 t19 2) w12 k8) w12 fun t20 w13 =>
  GuardP t16 true (fun (k9 : N1) => Run Tryd.prog (Instr.loadAt 53 t20) w13 k9) w13 fun t21 w14 =>
  GuardP t16 true (fun (k10 : N1) => GoN Tryd.prog (callFunc 33 #[t21]) w14 k10) w14 fun t22 w15 =>
  PickP t16 t22 (Go.Value.bool false) w15 fun t23 w16 =>
  GuardP t23 true (fun (k11 : N1) => k11 b_0 w16) w16 fun t25 w17 =>
  GuardP t23 true (fun (k12 : N1) => Run Tryd.prog (nilSem t25) w17 k12) w17 fun t26 w18 =>
  GuardP t23 true (fun (k13 : N1) => Run Tryd.prog (Instr.fieldAt 67 t26 3) w18 k13) w18 fun t27 w19 =>
  GuardP t23 true (fun (k14 : N1) => Run Tryd.prog (Instr.loadAt 54 t27) w19 k14) w19 fun t28 w20 =>
  GuardP t23 true (fun (k15 : N1) => GoN Tryd.prog (callFunc 34 #[t28]) w20 k15) w20 fun t29 w21 =>
  PickP t23 t29 (Go.Value.bool false) w21 fun t30 w22 =>
  GuardP t30 true (fun (k16 : N1) => k16 b_0 w22) w22 fun t32 w23 =>
  GuardP t30 true (fun (k17 : N1) => Run Tryd.prog (nilSem t32) w23 k17) w23 fun t33 w24 =>
  GuardP t30 true (fun (k18 : N1) => Run Tryd.prog (Instr.fieldAt 67 t33 4) w24 k18) w24 fun t34 w25 =>
  GuardP t30 true (fun (k19 : N1) => Run Tryd.prog (Instr.loadAt 55 t34) w25 k19) w25 fun t35 w26 =>
  GuardP t30 true (fun (k20 : N1) => GoN Tryd.prog (callFunc 35 #[t35]) w26 k20) w26 fun t36 w27 =>
  PickP t30 t36 (Go.Value.bool false) w27 fun t37 w28 =>
  GuardP t37 true (fun (k21 : N1) => k21 b_0 w28) w28 fun t39 w29 =>
  GuardP t37 true (fun (k22 : N1) => Run Tryd.prog (nilSem t39) w29 k22) w29 fun t40 w30 =>
  GuardP t37 true (fun (k23 : N1) => Run Tryd.prog (Instr.fieldAt 67 t40 5) w30 k23) w30 fun t41 w31 =>
  GuardP t37 true (fun (k24 : N1) => Run Tryd.prog (Instr.loadAt 56 t41) w31 k24) w31 fun t42 w32 =>
  GuardP t37 true (fun (k25 : N1) => GoN Tryd.prog (callFunc 36 #[t42]) w32 k25) w32 fun t43 w33 =>
  PickP t37 t43 (Go.Value.bool false) w33 fun t44 w34 =>
  GuardP t44 true (fun (k26 : N1) => k26 b_0 w34) w34 fun t46 w35 =>
  GuardP t44 true (fun (k27 : N1) => Run Tryd.prog (nilSem t46) w35 k27) w35 fun t47 w36 =>
  GuardP t44 true (fun (k28 : N1) => Run Tryd.prog (Instr.fieldAt 67 t47 6) w36 k28) w36 fun t48 w37 =>
  GuardP t44 true (fun (k29 : N1) => Run Tryd.prog (Instr.loadAt 57 t48) w37 k29) w37 fun t49 w38 =>
  GuardP t44 true (fun (k30 : N1) => GoN Tryd.prog (callFunc 37 #[t49]) w38 k30) w38 fun t50 w39 =>
  PickP t44 t50 (Go.Value.bool false) w39 fun t51 w40 =>
  GuardP t51 true (fun (k31 : N1) => k31 b_0 w40) w40 fun t53 w41 =>
  GuardP t51 true (fun (k32 : N1) => Run Tryd.prog (nilSem t53) w41 k32) w41 fun t54 w42 =>
  GuardP t51 true (fun (k33 : N1) => Run Tryd.prog (Instr.fieldAt 67 t54 7) w42 k33) w42 fun t55 w43 =>
  GuardP t51 true (fun (k34 : N1) => Run Tryd.prog (Instr.loadAt 58 t55) w43 k34) w43 fun t56 w44 =>
  GuardP t51 true (fun (k35 : N1) => GoN Tryd.prog (callFunc 38 #[t56]) w44 k35) w44 fun t57 w45 =>
  PickP t51 t57 (Go.Value.bool false) w45 fun t58 w46 =>
  GuardP t58 true (fun (k36 : N1) => k36 b_0 w46) w46 fun t60 w47 =>
  GuardP t58 true (fun (k37 : N1) => Run Tryd.prog (nilSem t60) w47 k37) w47 fun t61 w48 =>
  GuardP t58 true (fun (k38 : N1) => Run Tryd.prog (Instr.fieldAt 67 t61 8) w48 k38) w48 fun t62 w49 =>
  GuardP t58 true (fun (k39 : N1) => Run Tryd.prog (Instr.loadAt 59 t62) w49 k39) w49 fun t63 w50 =>
  GuardP t58 true (fun (k40 : N1) => GoN Tryd.prog (callFunc 39 #[t63]) w50 k40) w50 fun t64 w51 =>
  PickP t58 t64 (Go.Value.bool false) w51 fun t65 w52 =>
  GuardP t65 true (fun (k41 : N1) => k41 b_0 w52) w52 fun t67 w53 =>
  GuardP t65 true (fun (k42 : N1) => Run Tryd.prog (nilSem t67) w53 k42) w53 fun t68 w54 =>
  GuardP t65 true (fun (k43 : N1) => Run Tryd.prog (Instr.fieldAt 67 t68 9) w54 k43) w54 fun t69 w55 =>
  GuardP t65 true (fun (k44 : N1) => Run Tryd.prog (Instr.loadAt 60 t69) w55 k44) w55 fun t70 w56 =>
  GuardP t65 true (fun (k45 : N1) => GoN Tryd.prog (callFunc 40 #[t70]) w56 k45) w56 fun t71 w57 =>
  PickP t65 t71 (Go.Value.bool false) w57 fun t72 w58 =>
  Run Tryd.prog (nilSem b_0) w58 fun t74 w59 =>
  Run Tryd.prog (Instr.fieldAt 67 t74 10) w59 fun t75 w60 =>
  Run Tryd.prog (Instr.loadAt 61 t75) w60 fun t76 w61 =>
  GoN Tryd.prog (callFunc 41 #[t76]) w61 fun t77 w62 =>
  GuardP t77 true (fun (k46 : N1) => k46 b_0 w62) w62 fun t79 w63 =>
  GuardP t77 true (fun (k47 : N1) => Run Tryd.prog (nilSem t79) w63 k47) w63 fun t80 w64 =>
  GuardP t77 true (fun (k48 : N1) => Run Tryd.prog (Instr.fieldAt 67 t80 11) w64 k48) w64 fun t81 w65 =>
  GuardP t77 true (fun (k49 : N1) => Run Tryd.prog (Instr.loadAt 62 t81) w65 k49) w65 fun t82 w66 =>
  GuardP t77 true (fun (k50 : N1) => GoN Tryd.prog (callFunc 42 #[t82]) w66 k50) w66 fun t83 w67 =>
  PickP t77 t83 (Go.Value.bool false) w67 fun t84 w68 =>
  GuardP t84 true (fun (k51 : N1) => k51 b_0 w68) w68 fun t86 w69 =>
  GuardP t84 true (fun (k52 : N1) => Run Tryd.prog (nilSem t86) w69 k52) w69 fun t87 w70 =>
  GuardP t84 true (fun (k53 : N1) => Run Tryd.prog (Instr.fieldAt 67 t87 12) w70 k53) w70 fun t88 w71 =>
  GuardP t84 true (fun (k54 : N1) => Run Tryd.prog (Instr.loadAt 63 t88) w71 k54) w71 fun t89 w72 =>
  GuardP t84 true (fun (k55 : N1) => GoN Tryd.prog (callFunc 43 #[t89]) w72 k55) w72 fun t90 w73 =>
  PickP t84 t90 (Go.Value.bool false) w73 fun t91 w74 =>
  GuardP t91 true (fun (k56 : N1) => k56 b_0 w74) w74 fun t93 w75 =>
  GuardP t91 true (fun (k57 : N1) => Run Tryd.prog (nilSem t93) w75 k57) w75 fun t94 w76 =>
  GuardP t91 true (fun (k58 : N1) => Run Tryd.prog (Instr.fieldAt 67 t94 13) w76 k58) w76 fun t95 w77 =>
  GuardP t91 true (fun (k59 : N1) => Run Tryd.prog (Instr.loadAt 64 t95) w77 k59) w77 fun t96 w78 =>
  GuardP t91 true (fun (k60 : N1) => GoN Tryd.prog (callFunc 44 #[t96]) w78 k60) w78 fun t97 w79 =>
  PickP t91 t97 (Go.Value.bool false) w79 fun t98 w80 =>
  GuardP t98 true (fun (k61 : N1) => k61 b_0 w80) w80 fun t100 w81 =>
  GuardP t98 true (fun (k62 : N1) => Run Tryd.prog (nilSem t100) w81 k62) w81 fun t101 w82 =>
  GuardP t98 true (fun (k63 : N1) => Run Tryd.prog (Instr.fieldAt 67 t101 14) w82 k63) w82 fun t102 w83 =>
  GuardP t98 true (fun (k64 : N1) => Run Tryd.prog (Instr.loadAt 65 t102) w83 k64) w83 fun t103 w84 =>
  GuardP t98 true (fun (k65 : N1) => GoN Tryd.prog (callFunc 45 #[t103]) w84 k65) w84 fun t104 w85 =>
  PickP t98 t104 (Go.Value.bool false) w85 fun t105 w86 =>
  GuardP t72 true (fun (k66 : N1) => k66 t105 w86) w86 fun t108 w87 =>
  PickP t72 t108 (Go.Value.bool false) w87 fun t109 w88 =>
  R t109 w88
theorem S14_eq (b_0 : Value) (w : World) (R : Value → World → Prop) : vcFn Tryd.prog Tryd.f14 [b_0] w R = S14 b_0 w R := by kernel_rfl
theorem D14 {b_0 : Value} {w : World} {R : Value → World → Prop} (h : S14 b_0 w R) : Does Tryd.prog 14 [b_0] w R :=
  does_of_vc mixed Tryd.func14 (by kernel_rfl) (by kernel_rfl) ((S14_eq b_0 w R).mpr h)

/-- busbar/busbarref05.Kinds -/
def S15 (d_0 : Value) (w : World) (R : Value → World → Prop) : Prop :=
  Run Tryd.prog (Instr.box 32 d_0) w fun d_1 w1 =>
  Run Tryd.prog (Instr.fieldAt 32 d_1 0) w1 fun t6 w2 =>
  Run Tryd.prog (Instr.loadAt 4 t6) w2 fun t7 w3 =>
  CondP t7 1 (fun (k1 : N1) =>
    Run Tryd.prog (Instr.buildSlice 33 1 #[(0, (Go.Value.int Go.IntKind.i64 1))]) w3 fun t9 w4 =>
    Run Tryd.prog (Builtin.append_ #[33, 33] 33 #[(Go.Value.slice none 0 0), t9]) w4 fun t10 w5 =>
    k1 t10 w5)
  (fun (k2 : N1) =>
    k2 (Go.Value.slice none 0 0) w3)
  (fun (l_3 : Value) (w6 : World) => 
  Run Tryd.prog (Instr.buildSlice 33 1 #[(0, (Go.Value.int Go.IntKind.i64 2))]) w6 fun t12 w7 =>
  Run Tryd.prog (Builtin.append_ #[33, 33] 33 #[l_3, t12]) w7 fun t13 w8 =>
  JoinP 2 (fun (k3 : N2) =>
    LoopP 2 (fun (k4 : N2) => (fun (l_3 : Value) (i_4 : Value) (w9 : World) => 
      Run Tryd.prog (Instr.fieldAt 32 d_1 3) w9 fun t15 w10 =>
      Run Tryd.prog (Instr.loadAt 29 t15) w10 fun t16 w11 =>
      Run Tryd.prog (Builtin.len_ #[29] 3 #[t16]) w11 fun t17 w12 =>
      Run Tryd.prog (binSem Go.BinOp.lss 3 (Go.Operand.tmp 14) (Go.Operand.tmp 17) i_4 t17) w12 fun t18 w13 =>
      CondP t18 0 (fun (k5 : N0) =>
        k5 w13)
      (fun (k6 : N0) =>
        k3 l_3 i_4 w13)
      (fun (w14 : World) => 
      JoinP 1 (fun (k7 : N1) =>
        Run Tryd.prog (Instr.buildSlice 33 1 #[(0, (Go.Value.int Go.IntKind.i64 3))]) w14 fun t22 w15 =>
        Run Tryd.prog (Builtin.append_ #[33, 33] 33 #[l_3, t22]) w15 fun t23 w16 =>
        k7 t23 w16)
      (fun (l_3 : Value) (w17 : World) => 
      Run Tryd.prog (binSem Go.BinOp.add 3 (Go.Operand.tmp 19) (Go.Operand.const (Go.Value.int Go.IntKind.i64 1)) i_4 (Go.Value.int Go.IntKind.i64 1)) w17 fun t20 w18 =>
      k4 l_3 t20 w18))))
    [t13, (Go.Value.int Go.IntKind.i64 0)] w8)
  (fun (l_3 : Value) (i_4 : Value) (w19 : World) => 
  JoinP 2 (fun (k8 : N2) =>
    LoopP 2 (fun (k9 : N2) => (fun (l_3 : Value) (i_5 : Value) (w20 : World) => 
      Run Tryd.prog (Instr.fieldAt 32 d_1 4) w20 fun t25 w21 =>
      Run Tryd.prog (Instr.loadAt 30 t25) w21 fun t26 w22 =>
      Run Tryd.prog (Builtin.len_ #[30] 3 #[t26]) w22 fun t27 w23 =>
      Run Tryd.prog (binSem Go.BinOp.lss 3 (Go.Operand.tmp 24) (Go.Operand.tmp 27) i_5 t27) w23 fun t28 w24 =>
      CondP t28 0 (fun (k10 : N0) =>
        k10 w24)
      (fun (k11 : N0) =>
        k8 l_3 i_5 w24)
      (fun (w25 : World) => 
      JoinP 1 (fun (k12 : N1) =>
        Run Tryd.prog (Instr.buildSlice 33 1 #[(0, (Go.Value.int Go.IntKind.i64 4))]) w25 fun t32 w26 =>
        Run Tryd.prog (Builtin.append_ #[33, 33] 33 #[l_3, t32]) w26 fun t33 w27 =>
        k12 t33 w27)
      (fun (l_3 : Value) (w28 : World) => 
      Run Tryd.prog (binSem Go.BinOp.add 3 (Go.Operand.tmp 29) (Go.Operand.const (Go.Value.int Go.IntKind.i64 1)) i_5 (Go.Value.int Go.IntKind.i64 1)) w28 fun t30 w29 =>
      k9 l_3 t30 w29))))
    [l_3, (Go.Value.int Go.IntKind.i64 0)] w19)
  (fun (l_3 : Value) (i_5 : Value) (w30 : World) => 
  R l_3 w30)))
theorem S15_eq (d_0 : Value) (w : World) (R : Value → World → Prop) : vcFn Tryd.prog Tryd.f15 [d_0] w R = S15 d_0 w R := by kernel_rfl
theorem D15 {d_0 : Value} {w : World} {R : Value → World → Prop} (h : S15 d_0 w R) : Does Tryd.prog 15 [d_0] w R :=
  does_of_vc mixed Tryd.func15 (by kernel_rfl) (by kernel_rfl) ((S15_eq d_0 w R).mpr h)

/-- busbar/busbarref0.SameStations -/
def S16 (a_0 b_1 : Value) (w : World) (R : Value → World → Prop) : Prop :=
  Run Tryd.prog (Instr.box 28 a_0) w fun a_2 w1 =>
  Run Tryd.prog (Instr.box 28 b_1) w1 fun b_3 w2 =>
  Run Tryd.prog (Instr.fieldAt 28 a_2 0) w2 fun t5 w3 =>
  Run Tryd.prog (Instr.loadAt 23 t5) w3 fun t6 w4 =>
  Run Tryd.prog (Instr.fieldAt 28 b_3 0) w4 fun t7 w5 =>
  Run Tryd.prog (Instr.loadAt 23 t7) w5 fun t8 w6 =>
  Run Tryd.prog (binSem Go.BinOp.eql 23 (Go.Operand.tmp 6) (Go.Operand.tmp 8) t6 t8) w6 fun t9 w7 =>
  GuardP t9 true (fun (k1 : N1) => Run Tryd.prog (Instr.fieldAt 28 a_2 1) w7 k1) w7 fun t11 w8 =>
  GuardP t9 true (fun (k2 : N1) => Run Tryd.prog (Instr.loadAt 26 t11) w8 k2) w8 fun t12 w9 =>
  GuardP t9 true (fun (k3 : N1) => Run Tryd.prog (Instr.fieldAt 28 b_3 1) w9 k3) w9 fun t13 w10 =>
  GuardP t9 true (fun (k4 : N1) => Run Tryd.prog (Instr.loadAt 26 t13) w10 k4) w10 fun t14 w11 =>
  GuardP t9 true (fun (k5 : N1) => GoN Tryd.prog (callFunc 46 #[t12, t14]) w11 k5) w11 fun t15 w12 =>
  PickP t9 t15 (Go.Value.bool false) w12 fun t16 w13 =>
  R t16 w13
theorem S16_eq (a_0 b_1 : Value) (w : World) (R : Value → World → Prop) : vcFn Tryd.prog Tryd.f16 [a_0, b_1] w R = S16 a_0 b_1 w R := by kernel_rfl
theorem D16 {a_0 b_1 : Value} {w : World} {R : Value → World → Prop} (h : S16 a_0 b_1 w R) : Does Tryd.prog 16 [a_0, b_1] w R :=
  does_of_vc mixed Tryd.func16 (by kernel_rfl) (by kernel_rfl) ((S16_eq a_0 b_1 w R).mpr h)

/-- busbar/busbarref0.SameMessage -/
def S17 (a_0 b_1 : Value) (w : World) (R : Value → World → Prop) : Prop :=
  Run Tryd.prog (Instr.box 77 a_0) w fun a_2 w1 =>
  Run Tryd.prog (Instr.box 77 b_1) w1 fun b_3 w2 =>
  Run Tryd.prog (Instr.fieldAt 77 a_2 0) w2 fun t5 w3 =>
  Run Tryd.prog (Instr.loadAt 23 t5) w3 fun t6 w4 =>
  Run Tryd.prog (Instr.fieldAt 77 b_3 0) w4 fun t7 w5 =>
  Run Tryd.prog (Instr.loadAt 23 t7) w5 fun t8 w6 =>
  Run Tryd.prog (binSem Go.BinOp.eql 23 (Go.Operand.tmp 6) (Go.Operand.tmp 8) t6 t8) w6 fun t9 w7 =>
  GuardP t9 true (fun (k1 : N1) => Run Tryd.prog (Instr.fieldAt 77 a_2 1) w7 k1) w7 fun t11 w8 =>
  GuardP t9 true (fun (k2 : N1) => Run Tryd.prog (Instr.loadAt 74 t11) w8 k2) w8 fun t12 w9 =>
  GuardP t9 true (fun (k3 : N1) => Run Tryd.prog (Instr.fieldAt 77 b_3 1) w9 k3) w9 fun t13 w10 =>
  GuardP t9 true (fun (k4 : N1) => Run Tryd.prog (Instr.loadAt 74 t13) w10 k4) w10 fun t14 w11 =>
  GuardP t9 true (fun (k5 : N1) => Run Tryd.prog (binSem Go.BinOp.eql 74 (Go.Operand.tmp 12) (Go.Operand.tmp 14) t12 t14) w11 k5) w11 fun t15 w12 =>
  PickP t9 t15 (Go.Value.bool false) w12 fun t16 w13 =>
  GuardP t16 true (fun (k6 : N1) => Run Tryd.prog (Instr.fieldAt 77 a_2 2) w13 k6) w13 fun t18 w14 =>
  GuardP t16 true (fun (k7 : N1) => Run Tryd.prog (Instr.loadAt 4 t18) w14 k7) w14 fun t19 w15 =>
  GuardP t16 true (fun (k8 : N1) => Run Tryd.prog (Instr.fieldAt 77 b_3 2) w15 k8) w15 fun t20 w16 =>
  GuardP t16 true (fun (k9 : N1) => Run Tryd.prog (Instr.loadAt 4 t20) w16 k9) w16 fun t21 w17 =>
  GuardP t16 true (fun (k10 : N1) => Run Tryd.prog (binSem Go.BinOp.eql 4 (Go.Operand.tmp 19) (Go.Operand.tmp 21) t19 t21) w17 k10) w17 fun t22 w18 =>
  PickP t16 t22 (Go.Value.bool false) w18 fun t23 w19 =>
  GuardP t23 true (fun (k11 : N1) => Run Tryd.prog (Instr.fieldAt 77 a_2 3) w19 k11) w19 fun t25 w20 =>
  GuardP t23 true (fun (k12 : N1) => Run Tryd.prog (Instr.loadAt 9 t25) w20 k12) w20 fun t26 w21 =>
  GuardP t23 true (fun (k13 : N1) => Run Tryd.prog (Instr.fieldAt 77 b_3 3) w21 k13) w21 fun t27 w22 =>
  GuardP t23 true (fun (k14 : N1) => Run Tryd.prog (Instr.loadAt 9 t27) w22 k14) w22 fun t28 w23 =>
  GuardP t23 true (fun (k15 : N1) => Run Tryd.prog (binSem Go.BinOp.eql 9 (Go.Operand.tmp 26) (Go.Operand.tmp 28) t26 t28) w23 k15) w23 fun t29 w24 =>
  PickP t23 t29 (Go.Value.bool false) w24 fun t30 w25 =>
  GuardP t30 true (fun (k16 : N1) => Run Tryd.prog (Instr.fieldAt 77 a_2 4) w25 k16) w25 fun t32 w26 =>
  GuardP t30 true (fun (k17 : N1) => Run Tryd.prog (Instr.loadAt 3 t32) w26 k17) w26 fun t33 w27 =>
  GuardP t30 true (fun (k18 : N1) => Run Tryd.prog (Instr.fieldAt 77 b_3 4) w27 k18) w27 fun t34 w28 =>
  GuardP t30 true (fun (k19 : N1) => Run Tryd.prog (Instr.loadAt 3 t34) w28 k19) w28 fun t35 w29 =>
  GuardP t30 true (fun (k20 : N1) => Run Tryd.prog (binSem Go.BinOp.eql 3 (Go.Operand.tmp 33) (Go.Operand.tmp 35) t33 t35) w29 k20) w29 fun t36 w30 =>
  PickP t30 t36 (Go.Value.bool false) w30 fun t37 w31 =>
  GuardP t37 true (fun (k21 : N1) => Run Tryd.prog (Instr.fieldAt 77 a_2 5) w31 k21) w31 fun t39 w32 =>
  GuardP t37 true (fun (k22 : N1) => Run Tryd.prog (Instr.loadAt 9 t39) w32 k22) w32 fun t40 w33 =>
  GuardP t37 true (fun (k23 : N1) => Run Tryd.prog (Instr.fieldAt 77 b_3 5) w33 k23) w33 fun t41 w34 =>
  GuardP t37 true (fun (k24 : N1) => Run Tryd.prog (Instr.loadAt 9 t41) w34 k24) w34 fun t42 w35 =>
  GuardP t37 true (fun (k25 : N1) => Run Tryd.prog (binSem Go.BinOp.eql 9 (Go.Operand.tmp 40) (Go.Operand.tmp 42) t40 t42) w35 k25) w35 fun t43 w36 =>
  PickP t37 t43 (Go.Value.bool false) w36 fun t44 w37 =>
  GuardP t44 true (fun (k26 : N1) => Run Tryd.prog (Instr.fieldAt 77 a_2 6) w37 k26) w37 fun t46 w38 =>
  GuardP t44 true (fun (k27 : N1) => Run Tryd.prog (Instr.loadAt 75 t46) w38 k27) w38 fun t47 w39 =>
  GuardP t44 true (fun (k28 : N1) => Run Tryd.prog (Instr.fieldAt 77 b_3 6) w39 k28) w39 fun t48 w40 =>
  GuardP t44 true (fun (k29 : N1) => Run Tryd.prog (Instr.loadAt 75 t48) w40 k29) w40 fun t49 w41 =>
  GuardP t44 true (fun (k30 : N1) => GoN Tryd.prog (callFunc 47 #[t47, t49]) w41 k30) w41 fun t50 w42 =>
  PickP t44 t50 (Go.Value.bool false) w42 fun t51 w43 =>
  R t51 w43
theorem S17_eq (a_0 b_1 : Value) (w : World) (R : Value → World → Prop) : vcFn Tryd.prog Tryd.f17 [a_0, b_1] w R = S17 a_0 b_1 w R := by kernel_rfl
theorem D17 {a_0 b_1 : Value} {w : World} {R : Value → World → Prop} (h : S17 a_0 b_1 w R) : Does Tryd.prog 17 [a_0, b_1] w R :=
  does_of_vc mixed Tryd.func17 (by kernel_rfl) (by kernel_rfl) ((S17_eq a_0 b_1 w R).mpr h)

/-- busbar/busbarref0.SameTable -/
def S18 (a_0 b_1 : Value) (w : World) (R : Value → World → Prop) : Prop :=
  Run Tryd.prog (Instr.box 81 a_0) w fun a_2 w1 =>
  Run Tryd.prog (Instr.box 81 b_1) w1 fun b_3 w2 =>
  Run Tryd.prog (Instr.fieldAt 81 a_2 0) w2 fun t5 w3 =>
  Run Tryd.prog (Instr.loadAt 23 t5) w3 fun t6 w4 =>
  Run Tryd.prog (Instr.fieldAt 81 b_3 0) w4 fun t7 w5 =>
  Run Tryd.prog (Instr.loadAt 23 t7) w5 fun t8 w6 =>
  Run Tryd.prog (binSem Go.BinOp.eql 23 (Go.Operand.tmp 6) (Go.Operand.tmp 8) t6 t8) w6 fun t9 w7 =>
  GuardP t9 true (fun (k1 : N1) => Run Tryd.prog (Instr.fieldAt 81 a_2 1) w7 k1) w7 fun t11 w8 =>
  GuardP t9 true (fun (k2 : N1) => Run Tryd.prog (Instr.loadAt 74 t11) w8 k2) w8 fun t12 w9 =>
  GuardP t9 true (fun (k3 : N1) => Run Tryd.prog (Instr.fieldAt 81 b_3 1) w9 k3) w9 fun t13 w10 =>
  GuardP t9 true (fun (k4 : N1) => Run Tryd.prog (Instr.loadAt 74 t13) w10 k4) w10 fun t14 w11 =>
  GuardP t9 true (fun (k5 : N1) => Run Tryd.prog (binSem Go.BinOp.eql 74 (Go.Operand.tmp 12) (Go.Operand.tmp 14) t12 t14) w11 k5) w11 fun t15 w12 =>
  PickP t9 t15 (Go.Value.bool false) w12 fun t16 w13 =>
  GuardP t16 true (fun (k6 : N1) => Run Tryd.prog (Instr.fieldAt 81 a_2 2) w13 k6) w13 fun t18 w14 =>
  GuardP t16 true (fun (k7 : N1) => Run Tryd.prog (Instr.loadAt 4 t18) w14 k7) w14 fun t19 w15 =>
  GuardP t16 true (fun (k8 : N1) => Run Tryd.prog (Instr.fieldAt 81 b_3 2) w15 k8) w15 fun t20 w16 =>
  GuardP t16 true (fun (k9 : N1) => Run Tryd.prog (Instr.loadAt 4 t20) w16 k9) w16 fun t21 w17 =>
  GuardP t16 true (fun (k10 : N1) => Run Tryd.prog (binSem Go.BinOp.eql 4 (Go.Operand.tmp 19) (Go.Operand.tmp 21) t19 t21) w17 k10) w17 fun t22 w18 =>
  PickP t16 t22 (Go.Value.bool false) w18 fun t23 w19 =>
  GuardP t23 true (fun (k11 : N1) => Run Tryd.prog (Instr.fieldAt 81 a_2 3) w19 k11) w19 fun t25 w20 =>
  GuardP t23 true (fun (k12 : N1) => Run Tryd.prog (Instr.loadAt 9 t25) w20 k12) w20 fun t26 w21 =>
  GuardP t23 true (fun (k13 : N1) => Run Tryd.prog (Instr.fieldAt 81 b_3 3) w21 k13) w21 fun t27 w22 =>
  GuardP t23 true (fun (k14 : N1) => Run Tryd.prog (Instr.loadAt 9 t27) w22 k14) w22 fun t28 w23 =>
  GuardP t23 true (fun (k15 : N1) => Run Tryd.prog (binSem Go.BinOp.eql 9 (Go.Operand.tmp 26) (Go.Operand.tmp 28) t26 t28) w23 k15) w23 fun t29 w24 =>
  PickP t23 t29 (Go.Value.bool false) w24 fun t30 w25 =>
  GuardP t30 true (fun (k16 : N1) => Run Tryd.prog (Instr.fieldAt 81 a_2 4) w25 k16) w25 fun t32 w26 =>
  GuardP t30 true (fun (k17 : N1) => Run Tryd.prog (Instr.loadAt 79 t32) w26 k17) w26 fun t33 w27 =>
  GuardP t30 true (fun (k18 : N1) => Run Tryd.prog (Instr.fieldAt 81 b_3 4) w27 k18) w27 fun t34 w28 =>
  GuardP t30 true (fun (k19 : N1) => Run Tryd.prog (Instr.loadAt 79 t34) w28 k19) w28 fun t35 w29 =>
  GuardP t30 true (fun (k20 : N1) => GoN Tryd.prog (callFunc 48 #[t33, t35]) w29 k20) w29 fun t36 w30 =>
  PickP t30 t36 (Go.Value.bool false) w30 fun t37 w31 =>
  R t37 w31
theorem S18_eq (a_0 b_1 : Value) (w : World) (R : Value → World → Prop) : vcFn Tryd.prog Tryd.f18 [a_0, b_1] w R = S18 a_0 b_1 w R := by kernel_rfl
theorem D18 {a_0 b_1 : Value} {w : World} {R : Value → World → Prop} (h : S18 a_0 b_1 w R) : Does Tryd.prog 18 [a_0, b_1] w R :=
  does_of_vc mixed Tryd.func18 (by kernel_rfl) (by kernel_rfl) ((S18_eq a_0 b_1 w R).mpr h)

/-- busbar/node.stations -/
def S19 (s_0 : Value) (w : World) (R : Value → World → Prop) : Prop :=
  Run Tryd.prog (Instr.box 28 s_0) w fun s_1 w1 =>
  Run Tryd.prog (Instr.alloc 28 true (.tuple #[])) w1 fun t2 w2 =>
  Run Tryd.prog (Instr.fieldAt 28 s_1 1) w2 fun t3 w3 =>
  Run Tryd.prog (Instr.loadAt 26 t3) w3 fun t4 w4 =>
  GoN Tryd.prog (callFunc 49 #[t4]) w4 fun t5 w5 =>
  Run Tryd.prog (Instr.fieldAt 28 s_1 1) w5 fun t6 w6 =>
  RunU Tryd.prog (Instr.storeAt 26 t6 t5) w6 fun w7 =>
  Run Tryd.prog (Instr.loadAt 28 s_1) w7 fun t7 w8 =>
  RunU Tryd.prog (Instr.storeAt 28 t2 t7) w8 fun w9 =>
  resK Tryd.prog t2 28 w9 fun r0 =>
  R r0 w9
theorem S19_eq (s_0 : Value) (w : World) (R : Value → World → Prop) : vcFn Tryd.prog Tryd.f19 [s_0] w R = S19 s_0 w R := by kernel_rfl
theorem D19 {s_0 : Value} {w : World} {R : Value → World → Prop} (h : S19 s_0 w R) : Does Tryd.prog 19 [s_0] w R :=
  does_of_vc mixed Tryd.func19 (by kernel_rfl) (by kernel_rfl) ((S19_eq s_0 w R).mpr h)

/-- busbar/node.message -/
def S20 (m_0 : Value) (w : World) (R : Value → World → Prop) : Prop :=
  Run Tryd.prog (Instr.box 77 m_0) w fun m_1 w1 =>
  Run Tryd.prog (Instr.alloc 77 true (.tuple #[])) w1 fun t2 w2 =>
  Run Tryd.prog (Instr.fieldAt 77 m_1 6) w2 fun t4 w3 =>
  Run Tryd.prog (Instr.loadAt 75 t4) w3 fun t5 w4 =>
  GoN Tryd.prog (callFunc 50 #[t5]) w4 fun t6 w5 =>
  Run Tryd.prog (Instr.fieldAt 77 m_1 6) w5 fun t7 w6 =>
  RunU Tryd.prog (Instr.storeAt 75 t7 t6) w6 fun w7 =>
  Run Tryd.prog (Instr.fieldAt 77 m_1 6) w7 fun t8 w8 =>
  Run Tryd.prog (Instr.loadAt 75 t8) w8 fun t9 w9 =>
  Run Tryd.prog (Builtin.len_ #[75] 3 #[t9]) w9 fun t10 w10 =>
  JoinP 1 (fun (k1 : N1) =>
    LoopP 1 (fun (k2 : N1) => (fun (t11 : Value) (w11 : World) => 
      Run Tryd.prog (binSem Go.BinOp.lss 3 (Go.Operand.tmp 11) (Go.Operand.tmp 10) t11 t10) w11 fun t12 w12 =>
      CondP t12 0 (fun (k3 : N0) =>
        k3 w12)
      (fun (k4 : N0) =>
        k1 t11 w12)
      (fun (w13 : World) => 
      JoinP 0 (fun (k5 : N0) =>
        ∀ w14, Ext w13 w14 →
        RunQ Tryd.prog (Instr.fieldAt 77 m_1 6) w14 fun t14 =>
        RunQ Tryd.prog (Instr.loadAt 75 t14) w14 fun t15 =>
        RunQ Tryd.prog (Instr.fieldAt 77 m_1 6) w14 fun t17 =>
        RunQ Tryd.prog (Instr.loadAt 75 t17) w14 fun t18 =>
        RunQ Tryd.prog (Instr.indexAt 75 t18 t11) w14 fun t20 =>
        RunQ Tryd.prog (Instr.fieldAt 130 t20 13) w14 fun t21 =>
        RunQ Tryd.prog (Instr.loadAt 26 t21) w14 fun t22 =>
        GoN Tryd.prog (callFunc 49 #[t22]) w14 fun t23 w15 => Ext w14 w15 ∧
        RunQ Tryd.prog (Instr.indexAt 75 t15 t11) w14 fun t24 =>
        RunQ Tryd.prog (Instr.fieldAt 130 t24 13) w14 fun t25 =>
        RunU Tryd.prog (Instr.storeAt 26 t25 t23) w15 fun w16 =>
        k5 w16)
      (fun (w17 : World) => 
      Run Tryd.prog (binSem Go.BinOp.add 3 (Go.Operand.tmp 11) (Go.Operand.const (Go.Value.int Go.IntKind.i64 1)) t11 (Go.Value.int Go.IntKind.i64 1)) w17 fun t26 w18 =>
      k2 t26 w18))))
    [(Go.Value.int Go.IntKind.i64 0)] w10)
  (fun (t11 : Value) (w19 : World) => 
  Run Tryd.prog (Instr.loadAt 77 m_1) w19 fun t27 w20 =>
  RunU Tryd.prog (Instr.storeAt 77 t2 t27) w20 fun w21 =>
  resK Tryd.prog t2 77 w21 fun r0 =>
  R r0 w21)
theorem S20_eq (m_0 : Value) (w : World) (R : Value → World → Prop) : vcFn Tryd.prog Tryd.f20 [m_0] w R = S20 m_0 w R := by kernel_rfl
theorem D20 {m_0 : Value} {w : World} {R : Value → World → Prop} (h : S20 m_0 w R) : Does Tryd.prog 20 [m_0] w R :=
  does_of_vc mixed Tryd.func20 (by kernel_rfl) (by kernel_rfl) ((S20_eq m_0 w R).mpr h)

/-- busbar/node.table -/
def S21 (t_0 : Value) (w : World) (R : Value → World → Prop) : Prop :=
  Run Tryd.prog (Instr.box 81 t_0) w fun t_1 w1 =>
  Run Tryd.prog (Instr.alloc 81 true (.tuple #[])) w1 fun t2 w2 =>
  Run Tryd.prog (Instr.fieldAt 81 t_1 4) w2 fun t3 w3 =>
  Run Tryd.prog (Instr.loadAt 79 t3) w3 fun t4 w4 =>
  GoN Tryd.prog (callFunc 51 #[t4]) w4 fun t5 w5 =>
  Run Tryd.prog (Instr.fieldAt 81 t_1 4) w5 fun t6 w6 =>
  RunU Tryd.prog (Instr.storeAt 79 t6 t5) w6 fun w7 =>
  Run Tryd.prog (Instr.loadAt 81 t_1) w7 fun t7 w8 =>
  RunU Tryd.prog (Instr.storeAt 81 t2 t7) w8 fun w9 =>
  resK Tryd.prog t2 81 w9 fun r0 =>
  R r0 w9
theorem S21_eq (t_0 : Value) (w : World) (R : Value → World → Prop) : vcFn Tryd.prog Tryd.f21 [t_0] w R = S21 t_0 w R := by kernel_rfl
theorem D21 {t_0 : Value} {w : World} {R : Value → World → Prop} (h : S21 t_0 w R) : Does Tryd.prog 21 [t_0] w R :=
  does_of_vc mixed Tryd.func21 (by kernel_rfl) (by kernel_rfl) ((S21_eq t_0 w R).mpr h)

/-- busbar/busbarkit.Pick -/
def S22 (k_0 n_1 : Value) (w : World) (R : Value → World → Prop) : Prop :=
  Run Tryd.prog (binSem Go.BinOp.lss 3 (Go.Operand.tmp 5) (Go.Operand.const (Go.Value.int Go.IntKind.i64 1)) n_1 (Go.Value.int Go.IntKind.i64 1)) w fun t6 w1 =>
  CondP t6 1 (fun (k1 : N1) =>
    R (Go.Value.int Go.IntKind.i64 0) w1)
  (fun (k2 : N1) =>
    k2 (Go.Value.int Go.IntKind.i64 0) w1)
  (fun (t4 : Value) (w2 : World) => 
  Run Tryd.prog (binSem Go.BinOp.rem 3 (Go.Operand.tmp 7) (Go.Operand.tmp 8) k_0 n_1) w2 fun t9 w3 =>
  Run Tryd.prog (binSem Go.BinOp.lss 3 (Go.Operand.tmp 10) (Go.Operand.const (Go.Value.int Go.IntKind.i64 0)) t9 (Go.Value.int Go.IntKind.i64 0)) w3 fun t11 w4 =>
  CondP t11 1 (fun (k3 : N1) =>
    Run Tryd.prog (binSem Go.BinOp.add 3 (Go.Operand.tmp 12) (Go.Operand.tmp 13) t9 n_1) w4 fun t14 w5 =>
    k3 t14 w5)
  (fun (k4 : N1) =>
    k4 t9 w4)
  (fun (k_0 : Value) (w6 : World) => 
  R k_0 w6))
theorem S22_eq (k_0 n_1 : Value) (w : World) (R : Value → World → Prop) : vcFn Tryd.prog Tryd.f22 [k_0, n_1] w R = S22 k_0 n_1 w R := by kernel_rfl
theorem D22 {k_0 n_1 : Value} {w : World} {R : Value → World → Prop} (h : S22 k_0 n_1 w R) : Does Tryd.prog 22 [k_0, n_1] w R :=
  does_of_vc mixed Tryd.func22 (by kernel_rfl) (by kernel_rfl) ((S22_eq k_0 n_1 w R).mpr h)

/-- busbar/node.kind -/
def S23 (n_0 : Value) (w : World) (R : Value → World → Prop) : Prop :=
  Run Tryd.prog (Instr.alloc 92 true (.tuple #[])) w fun t2 w1 =>
  JoinP 0 (fun (k1 : N0) =>
    Run Tryd.prog (Instr.typeAssert n_0 49 25 true) w1 fun t4 w2 =>
    Run Tryd.prog (Instr.extract t4 1) w2 fun t5 w3 =>
    Run Tryd.prog (Instr.extract t4 0) w3 fun t6 w4 =>
    CondP t5 0 (fun (k2 : N0) =>
      Run Tryd.prog (Instr.build 92 #[(0, (Go.Value.int Go.IntKind.i64 1)), (1, (Go.Value.string { data := #[118, 101, 114, 115, 105, 111, 110] }))]) w4 fun t7 w5 =>
      RunU Tryd.prog (Instr.storeAt 92 t2 t7) w5 fun w6 =>
      resK Tryd.prog t2 92 w6 fun r0 =>
      R r0 w6)
    (fun (k3 : N0) =>
      Run Tryd.prog (Instr.typeAssert n_0 49 28 true) w4 fun t8 w7 =>
      Run Tryd.prog (Instr.extract t8 1) w7 fun t9 w8 =>
      Run Tryd.prog (Instr.extract t8 0) w8 fun t10 w9 =>
      CondP t9 0 (fun (k4 : N0) =>
        Run Tryd.prog (Instr.build 92 #[(0, (Go.Value.int Go.IntKind.i64 2)), (1, (Go.Value.string { data := #[115, 116, 97, 116, 105, 111, 110, 115] }))]) w9 fun t11 w10 =>
        RunU Tryd.prog (Instr.storeAt 92 t2 t11) w10 fun w11 =>
        resK Tryd.prog t2 92 w11 fun r0 =>
        R r0 w11)
      (fun (k5 : N0) =>
        Run Tryd.prog (Instr.typeAssert n_0 49 77 true) w9 fun t12 w12 =>
        Run Tryd.prog (Instr.extract t12 1) w12 fun t13 w13 =>
        Run Tryd.prog (Instr.extract t12 0) w13 fun t14 w14 =>
        CondP t13 0 (fun (k6 : N0) =>
          Run Tryd.prog (Instr.build 92 #[(0, (Go.Value.int Go.IntKind.i64 3)), (1, (Go.Value.string { data := #[109, 101, 115, 115, 97, 103, 101] }))]) w14 fun t15 w15 =>
          RunU Tryd.prog (Instr.storeAt 92 t2 t15) w15 fun w16 =>
          resK Tryd.prog t2 92 w16 fun r0 =>
          R r0 w16)
        (fun (k7 : N0) =>
          Run Tryd.prog (Instr.typeAssert n_0 49 81 true) w14 fun t16 w17 =>
          Run Tryd.prog (Instr.extract t16 1) w17 fun t17 w18 =>
          Run Tryd.prog (Instr.extract t16 0) w18 fun t18 w19 =>
          CondP t17 0 (fun (k8 : N0) =>
            Run Tryd.prog (Instr.build 92 #[(0, (Go.Value.int Go.IntKind.i64 4)), (1, (Go.Value.string { data := #[116, 97, 98, 108, 101] }))]) w19 fun t19 w20 =>
            RunU Tryd.prog (Instr.storeAt 92 t2 t19) w20 fun w21 =>
            resK Tryd.prog t2 92 w21 fun r0 =>
            R r0 w21)
          (fun (k9 : N0) =>
            k9 w19)
          (fun (w22 : World) => 
          k7 w22))
        (fun (w23 : World) => 
        k5 w23))
      (fun (w24 : World) => 
      k3 w24))
    (fun (w25 : World) => 
    k1 w25))
  (fun (w26 : World) => 
  Run Tryd.prog (Instr.build 92 #[]) w26 fun t20 w27 =>
  RunU Tryd.prog (Instr.storeAt 92 t2 t20) w27 fun w28 =>
  resK Tryd.prog t2 92 w28 fun r0 =>
  R r0 w28)
theorem S23_eq (n_0 : Value) (w : World) (R : Value → World → Prop) : vcFn Tryd.prog Tryd.f23 [n_0] w R = S23 n_0 w R := by kernel_rfl
theorem D23 {n_0 : Value} {w : World} {R : Value → World → Prop} (h : S23 n_0 w R) : Does Tryd.prog 23 [n_0] w R :=
  does_of_vc mixed Tryd.func23 (by kernel_rfl) (by kernel_rfl) ((S23_eq n_0 w R).mpr h)

/-- busbar/busbarkit.Place -/
def S24 (e_0 : Value) (w : World) (R : Value → World → Prop) : Prop :=
  Run Tryd.prog (Instr.alloc 96 true (.tuple #[])) w fun f_5 w1 =>
  Run Tryd.prog (binSem Go.BinOp.eql 42 (Go.Operand.tmp 6) (Go.Operand.const Go.Value.nilIface) e_0 Go.Value.nilIface) w1 fun t7 w2 =>
  GuardP t7 false (fun (k1 : N1) => k1 e_0 w2) w2 fun t9 w3 =>
  GuardP t7 false (fun (k2 : N1) => Run Tryd.prog (Instr.makeInterface 135 f_5) w3 k2) w3 fun t10 w4 =>
  GuardP t7 false (fun (k3 : N1) => GoN Tryd.prog (callFunc 52 #[t9, t10]) w4 k3) w4 fun t11 w5 =>
  GuardP t7 false (fun (k4 : N1) => Run Tryd.prog (Op.unary Go.UnOp.not t11) w5 k4) w5 fun t12 w6 =>
  PickP t7 (Go.Value.bool true) t12 w6 fun t13 w7 =>
  CondP t13 3 (fun (k5 : N3) =>
    R (.tuple #[(Go.Value.int Go.IntKind.i64 0), (Go.Value.int Go.IntKind.i64 0), (Go.Value.bool false)]) w7)
  (fun (k6 : N3) =>
    k6 (Go.Value.int Go.IntKind.i64 0) (Go.Value.int Go.IntKind.i64 0) (Go.Value.bool false) w7)
  (fun (t2 : Value) (t3 : Value) (t4 : Value) (w8 : World) => 
  ∀ w9, Ext w8 w9 →
  RunQ Tryd.prog (Instr.fieldAt 96 f_5 1) w9 fun t14 =>
  RunQ Tryd.prog (Instr.loadAt 3 t14) w9 fun t15 =>
  RunQ Tryd.prog (Instr.fieldAt 96 f_5 2) w9 fun t16 =>
  RunQ Tryd.prog (Instr.loadAt 3 t16) w9 fun t17 =>
  RunQ Tryd.prog (Instr.fieldAt 96 f_5 0) w9 fun t18 =>
  RunQ Tryd.prog (Instr.loadAt 94 t18) w9 fun t19 =>
  GoN Tryd.prog (callFunc 25 #[e_0]) w9 fun t21 w10 => Ext w9 w10 ∧
  RunQ Tryd.prog (binSem Go.BinOp.eql 3 (Go.Operand.tmp 19) (Go.Operand.tmp 21) t19 t21) w9 fun t22 =>
  R (.tuple #[t15, t17, t22]) w10)
theorem S24_eq (e_0 : Value) (w : World) (R : Value → World → Prop) : vcFn Tryd.prog Tryd.f24 [e_0] w R = S24 e_0 w R := by kernel_rfl
theorem D24 {e_0 : Value} {w : World} {R : Value → World → Prop} (h : S24 e_0 w R) : Does Tryd.prog 24 [e_0] w R :=
  does_of_vc mixed Tryd.func24 (by kernel_rfl) (by kernel_rfl) ((S24_eq e_0 w R).mpr h)

/-- busbar/busbarkit.Num -/
def S25 (e_0 : Value) (w : World) (R : Value → World → Prop) : Prop :=
  Run Tryd.prog (binSem Go.BinOp.eql 42 (Go.Operand.tmp 5) (Go.Operand.const Go.Value.nilIface) e_0 Go.Value.nilIface) w fun t6 w1 =>
  CondP t6 1 (fun (k1 : N1) =>
    R (Go.Value.int Go.IntKind.i64 0) w1)
  (fun (k2 : N1) =>
    k2 (Go.Value.int Go.IntKind.i64 0) w1)
  (fun (t2 : Value) (w2 : World) => 
  JoinP 3 (fun (k3 : N3) =>
    LoopP 3 (fun (k4 : N3) => (fun (t2 : Value) (found_3 : Value) (n_4 : Value) (w3 : World) => 
      Run Tryd.prog (binSem Go.BinOp.leq 3 (Go.Operand.tmp 7) (Go.Operand.const (Go.Value.int Go.IntKind.i64 26)) n_4 (Go.Value.int Go.IntKind.i64 26)) w3 fun t8 w4 =>
      CondP t8 0 (fun (k5 : N0) =>
        k5 w4)
      (fun (k6 : N0) =>
        k3 t2 found_3 n_4 w4)
      (fun (w5 : World) => 
      JoinP 2 (fun (k7 : N2) =>
        Run Tryd.prog (Instr.makeInterface 94 n_4) w5 fun t13 w6 =>
        GoN Tryd.prog (callFunc 53 #[e_0, t13]) w6 fun t14 w7 =>
        CondP t14 2 (fun (k8 : N2) =>
          Run Tryd.prog (binSem Go.BinOp.neq 3 (Go.Operand.tmp 15) (Go.Operand.const (Go.Value.int Go.IntKind.i64 0)) found_3 (Go.Value.int Go.IntKind.i64 0)) w7 fun t16 w8 =>
          CondP t16 1 (fun (k9 : N1) =>
            R (Go.Value.int Go.IntKind.i64 (-1)) w8)
          (fun (k10 : N1) =>
            k10 t2 w8)
          (fun (t2 : Value) (w9 : World) => 
          k8 t2 n_4 w9))
        (fun (k11 : N2) =>
          k11 t2 found_3 w7)
        (fun (t2 : Value) (found_3 : Value) (w10 : World) => 
        k7 t2 found_3 w10))
      (fun (t2 : Value) (found_3 : Value) (w11 : World) => 
      Run Tryd.prog (binSem Go.BinOp.add 3 (Go.Operand.tmp 9) (Go.Operand.const (Go.Value.int Go.IntKind.i64 1)) n_4 (Go.Value.int Go.IntKind.i64 1)) w11 fun t10 w12 =>
      k4 t2 found_3 t10 w12))))
    [t2, (Go.Value.int Go.IntKind.i64 0), (Go.Value.int Go.IntKind.i64 1)] w2)
  (fun (t2 : Value) (found_3 : Value) (n_4 : Value) (w13 : World) => 
  Run Tryd.prog (binSem Go.BinOp.eql 3 (Go.Operand.tmp 18) (Go.Operand.const (Go.Value.int Go.IntKind.i64 0)) found_3 (Go.Value.int Go.IntKind.i64 0)) w13 fun t19 w14 =>
  GuardP t19 false (fun (k12 : N1) => k12 e_0 w14) w14 fun t21 w15 =>
  GuardP t19 false (fun (k13 : N1) => Run Tryd.prog (Instr.makeInterface 94 (Go.Value.int Go.IntKind.i64 0)) w15 k13) w15 fun t22 w16 =>
  GuardP t19 false (fun (k14 : N1) => GoN Tryd.prog (callFunc 53 #[t21, t22]) w16 k14) w16 fun t23 w17 =>
  PickP t19 (Go.Value.bool true) t23 w17 fun t24 w18 =>
  CondP t24 1 (fun (k15 : N1) =>
    R (Go.Value.int Go.IntKind.i64 (-1)) w18)
  (fun (k16 : N1) =>
    k16 t2 w18)
  (fun (t2 : Value) (w19 : World) => 
  R found_3 w19)))
theorem S25_eq (e_0 : Value) (w : World) (R : Value → World → Prop) : vcFn Tryd.prog Tryd.f25 [e_0] w R = S25 e_0 w R := by kernel_rfl
theorem D25 {e_0 : Value} {w : World} {R : Value → World → Prop} (h : S25 e_0 w R) : Does Tryd.prog 25 [e_0] w R :=
  does_of_vc mixed Tryd.func25 (by kernel_rfl) (by kernel_rfl) ((S25_eq e_0 w R).mpr h)

/-- busbar/busbarref0.SameMessages -/
def S26 (a_0 b_1 : Value) (w : World) (R : Value → World → Prop) : Prop :=
  Run Tryd.prog (Builtin.len_ #[29] 3 #[a_0]) w fun t7 w1 =>
  Run Tryd.prog (Builtin.len_ #[29] 3 #[b_1]) w1 fun t9 w2 =>
  Run Tryd.prog (binSem Go.BinOp.neq 3 (Go.Operand.tmp 7) (Go.Operand.tmp 9) t7 t9) w2 fun t10 w3 =>
  CondP t10 1 (fun (k1 : N1) =>
    R (Go.Value.bool false) w3)
  (fun (k2 : N1) =>
    k2 (Go.Value.bool false) w3)
  (fun (t4 : Value) (w4 : World) => 
  JoinP 2 (fun (k3 : N2) =>
    LoopP 2 (fun (k4 : N2) => (fun (t4 : Value) (i_5 : Value) (w5 : World) => 
      Run Tryd.prog (Builtin.len_ #[29] 3 #[a_0]) w5 fun t13 w6 =>
      Run Tryd.prog (binSem Go.BinOp.lss 3 (Go.Operand.tmp 11) (Go.Operand.tmp 13) i_5 t13) w6 fun t14 w7 =>
      CondP t14 0 (fun (k5 : N0) =>
        k5 w7)
      (fun (k6 : N0) =>
        k3 t4 i_5 w7)
      (fun (w8 : World) => 
      JoinP 1 (fun (k7 : N1) =>
        ∀ w9, Ext w8 w9 →
        RunQ Tryd.prog (Instr.indexAt 29 a_0 i_5) w9 fun t19 =>
        RunQ Tryd.prog (Instr.loadAt 77 t19) w9 fun t20 =>
        RunQ Tryd.prog (Instr.indexAt 29 b_1 i_5) w9 fun t23 =>
        RunQ Tryd.prog (Instr.loadAt 77 t23) w9 fun t24 =>
        GoN Tryd.prog (callFunc 17 #[t20, t24]) w9 fun t25 w10 => Ext w9 w10 ∧
        RunQ Tryd.prog (Op.unary Go.UnOp.not t25) w9 fun t26 =>
        CondP t26 1 (fun (k8 : N1) =>
          R (Go.Value.bool false) w10)
        (fun (k9 : N1) =>
          k9 t4 w10)
        (fun (t4 : Value) (w11 : World) => 
        k7 t4 w11))
      (fun (t4 : Value) (w12 : World) => 
      Run Tryd.prog (binSem Go.BinOp.add 3 (Go.Operand.tmp 15) (Go.Operand.const (Go.Value.int Go.IntKind.i64 1)) i_5 (Go.Value.int Go.IntKind.i64 1)) w12 fun t16 w13 =>
      k4 t4 t16 w13))))
    [t4, (Go.Value.int Go.IntKind.i64 0)] w4)
  (fun (t4 : Value) (i_5 : Value) (w14 : World) => 
  R (Go.Value.bool true) w14))
theorem S26_eq (a_0 b_1 : Value) (w : World) (R : Value → World → Prop) : vcFn Tryd.prog Tryd.f26 [a_0, b_1] w R = S26 a_0 b_1 w R := by kernel_rfl
theorem D26 {a_0 b_1 : Value} {w : World} {R : Value → World → Prop} (h : S26 a_0 b_1 w R) : Does Tryd.prog 26 [a_0, b_1] w R :=
  does_of_vc mixed Tryd.func26 (by kernel_rfl) (by kernel_rfl) ((S26_eq a_0 b_1 w R).mpr h)

/-- busbar/busbarref0.SameTables -/
def S27 (a_0 b_1 : Value) (w : World) (R : Value → World → Prop) : Prop :=
  Run Tryd.prog (Builtin.len_ #[30] 3 #[a_0]) w fun t7 w1 =>
  Run Tryd.prog (Builtin.len_ #[30] 3 #[b_1]) w1 fun t9 w2 =>
  Run Tryd.prog (binSem Go.BinOp.neq 3 (Go.Operand.tmp 7) (Go.Operand.tmp 9) t7 t9) w2 fun t10 w3 =>
  CondP t10 1 (fun (k1 : N1) =>
    R (Go.Value.bool false) w3)
  (fun (k2 : N1) =>
    k2 (Go.Value.bool false) w3)
  (fun (t4 : Value) (w4 : World) => 
  JoinP 2 (fun (k3 : N2) =>
    LoopP 2 (fun (k4 : N2) => (fun (t4 : Value) (i_5 : Value) (w5 : World) => 
      Run Tryd.prog (Builtin.len_ #[30] 3 #[a_0]) w5 fun t13 w6 =>
      Run Tryd.prog (binSem Go.BinOp.lss 3 (Go.Operand.tmp 11) (Go.Operand.tmp 13) i_5 t13) w6 fun t14 w7 =>
      CondP t14 0 (fun (k5 : N0) =>
        k5 w7)
      (fun (k6 : N0) =>
        k3 t4 i_5 w7)
      (fun (w8 : World) => 
      JoinP 1 (fun (k7 : N1) =>
        ∀ w9, Ext w8 w9 →
        RunQ Tryd.prog (Instr.indexAt 30 a_0 i_5) w9 fun t19 =>
        RunQ Tryd.prog (Instr.loadAt 81 t19) w9 fun t20 =>
        RunQ Tryd.prog (Instr.indexAt 30 b_1 i_5) w9 fun t23 =>
        RunQ Tryd.prog (Instr.loadAt 81 t23) w9 fun t24 =>
        GoN Tryd.prog (callFunc 18 #[t20, t24]) w9 fun t25 w10 => Ext w9 w10 ∧
        RunQ Tryd.prog (Op.unary Go.UnOp.not t25) w9 fun t26 =>
        CondP t26 1 (fun (k8 : N1) =>
          R (Go.Value.bool false) w10)
        (fun (k9 : N1) =>
          k9 t4 w10)
        (fun (t4 : Value) (w11 : World) => 
        k7 t4 w11))
      (fun (t4 : Value) (w12 : World) => 
      Run Tryd.prog (binSem Go.BinOp.add 3 (Go.Operand.tmp 15) (Go.Operand.const (Go.Value.int Go.IntKind.i64 1)) i_5 (Go.Value.int Go.IntKind.i64 1)) w12 fun t16 w13 =>
      k4 t4 t16 w13))))
    [t4, (Go.Value.int Go.IntKind.i64 0)] w4)
  (fun (t4 : Value) (i_5 : Value) (w14 : World) => 
  R (Go.Value.bool true) w14))
theorem S27_eq (a_0 b_1 : Value) (w : World) (R : Value → World → Prop) : vcFn Tryd.prog Tryd.f27 [a_0, b_1] w R = S27 a_0 b_1 w R := by kernel_rfl
theorem D27 {a_0 b_1 : Value} {w : World} {R : Value → World → Prop} (h : S27 a_0 b_1 w R) : Does Tryd.prog 27 [a_0, b_1] w R :=
  does_of_vc mixed Tryd.func27 (by kernel_rfl) (by kernel_rfl) ((S27_eq a_0 b_1 w R).mpr h)

/-- (*busbar/busbarkit.Book).Messages -/
def S28 (b_0 l_1 : Value) (w : World) (R : Value → World → Prop) : Prop :=
  Run Tryd.prog (nilSem b_0) w fun t7 w1 =>
  Run Tryd.prog (Instr.fieldAt 67 t7 11) w1 fun t8 w2 =>
  Run Tryd.prog (Instr.loadAt 62 t8) w2 fun t9 w3 =>
  Run Tryd.prog (Instr.buildSlice 62 1 #[(0, l_1)]) w3 fun t11 w4 =>
  Run Tryd.prog (Builtin.append_ #[62, 62] 62 #[t9, t11]) w4 fun t12 w5 =>
  Run Tryd.prog (nilSem b_0) w5 fun t13 w6 =>
  Run Tryd.prog (Instr.fieldAt 67 t13 11) w6 fun t14 w7 =>
  RunU Tryd.prog (Instr.storeAt 62 t14 t12) w7 fun w8 =>
  JoinP 1 (fun (k1 : N1) =>
    LoopP 1 (fun (k2 : N1) => (fun (i_4 : Value) (w9 : World) => 
      Run Tryd.prog (Builtin.len_ #[29] 3 #[l_1]) w9 fun t17 w10 =>
      Run Tryd.prog (binSem Go.BinOp.lss 3 (Go.Operand.tmp 15) (Go.Operand.tmp 17) i_4 t17) w10 fun t18 w11 =>
      CondP t18 0 (fun (k3 : N0) =>
        k3 w11)
      (fun (k4 : N0) =>
        k1 i_4 w11)
      (fun (w12 : World) => 
      JoinP 0 (fun (k5 : N0) =>
        Run Tryd.prog (Instr.indexAt 29 l_1 i_4) w12 fun t24 w13 =>
        Run Tryd.prog (Instr.loadAt 77 t24) w13 fun t25 w14 =>
        GoN Tryd.prog (callFunc 54 #[b_0, t25]) w14 fun t26 w15 =>
        k5 w15)
      (fun (w16 : World) => 
      Run Tryd.prog (binSem Go.BinOp.add 3 (Go.Operand.tmp 19) (Go.Operand.const (Go.Value.int Go.IntKind.i64 1)) i_4 (Go.Value.int Go.IntKind.i64 1)) w16 fun t20 w17 =>
      k2 t20 w17))))
    [(Go.Value.int Go.IntKind.i64 0)] w8)
  (fun (i_4 : Value) (w18 : World) => 
  R (.tuple #[]) w18)
theorem S28_eq (b_0 l_1 : Value) (w : World) (R : Value → World → Prop) : vcFn Tryd.prog Tryd.f28 [b_0, l_1] w R = S28 b_0 l_1 w R := by kernel_rfl
theorem D28 {b_0 l_1 : Value} {w : World} {R : Value → World → Prop} (h : S28 b_0 l_1 w R) : Does Tryd.prog 28 [b_0, l_1] w R :=
  does_of_vc mixed Tryd.func28 (by kernel_rfl) (by kernel_rfl) ((S28_eq b_0 l_1 w R).mpr h)

/-- (*busbar/busbarkit.Book).Tables -/
def S29 (b_0 l_1 : Value) (w : World) (R : Value → World → Prop) : Prop :=
  Run Tryd.prog (nilSem b_0) w fun t7 w1 =>
  Run Tryd.prog (Instr.fieldAt 67 t7 12) w1 fun t8 w2 =>
  Run Tryd.prog (Instr.loadAt 63 t8) w2 fun t9 w3 =>
  Run Tryd.prog (Instr.buildSlice 63 1 #[(0, l_1)]) w3 fun t11 w4 =>
  Run Tryd.prog (Builtin.append_ #[63, 63] 63 #[t9, t11]) w4 fun t12 w5 =>
  Run Tryd.prog (nilSem b_0) w5 fun t13 w6 =>
  Run Tryd.prog (Instr.fieldAt 67 t13 12) w6 fun t14 w7 =>
  RunU Tryd.prog (Instr.storeAt 63 t14 t12) w7 fun w8 =>
  JoinP 1 (fun (k1 : N1) =>
    LoopP 1 (fun (k2 : N1) => (fun (i_4 : Value) (w9 : World) => 
      Run Tryd.prog (Builtin.len_ #[30] 3 #[l_1]) w9 fun t17 w10 =>
      Run Tryd.prog (binSem Go.BinOp.lss 3 (Go.Operand.tmp 15) (Go.Operand.tmp 17) i_4 t17) w10 fun t18 w11 =>
      CondP t18 0 (fun (k3 : N0) =>
        k3 w11)
      (fun (k4 : N0) =>
        k1 i_4 w11)
      (fun (w12 : World) => 
      JoinP 0 (fun (k5 : N0) =>
        Run Tryd.prog (Instr.indexAt 30 l_1 i_4) w12 fun t24 w13 =>
        Run Tryd.prog (Instr.loadAt 81 t24) w13 fun t25 w14 =>
        GoN Tryd.prog (callFunc 55 #[b_0, t25]) w14 fun t26 w15 =>
        k5 w15)
      (fun (w16 : World) => 
      Run Tryd.prog (binSem Go.BinOp.add 3 (Go.Operand.tmp 19) (Go.Operand.const (Go.Value.int Go.IntKind.i64 1)) i_4 (Go.Value.int Go.IntKind.i64 1)) w16 fun t20 w17 =>
      k2 t20 w17))))
    [(Go.Value.int Go.IntKind.i64 0)] w8)
  (fun (i_4 : Value) (w18 : World) => 
  R (.tuple #[]) w18)
theorem S29_eq (b_0 l_1 : Value) (w : World) (R : Value → World → Prop) : vcFn Tryd.prog Tryd.f29 [b_0, l_1] w R = S29 b_0 l_1 w R := by kernel_rfl
theorem D29 {b_0 l_1 : Value} {w : World} {R : Value → World → Prop} (h : S29 b_0 l_1 w R) : Does Tryd.prog 29 [b_0, l_1] w R :=
  does_of_vc mixed Tryd.func29 (by kernel_rfl) (by kernel_rfl) ((S29_eq b_0 l_1 w R).mpr h)

/-- (*busbar/busbarkit.Book).Stations -/
def S30 (b_0 s_1 : Value) (w : World) (R : Value → World → Prop) : Prop :=
  Run Tryd.prog (Instr.box 28 s_1) w fun s_3 w1 =>
  Run Tryd.prog (Instr.fieldAt 28 s_3 1) w1 fun t5 w2 =>
  Run Tryd.prog (Instr.loadAt 26 t5) w2 fun t6 w3 =>
  GoN Tryd.prog (callFunc 56 #[b_0, t6]) w3 fun t7 w4 =>
  R (.tuple #[]) w4
theorem S30_eq (b_0 s_1 : Value) (w : World) (R : Value → World → Prop) : vcFn Tryd.prog Tryd.f30 [b_0, s_1] w R = S30 b_0 s_1 w R := by kernel_rfl
theorem D30 {b_0 s_1 : Value} {w : World} {R : Value → World → Prop} (h : S30 b_0 s_1 w R) : Does Tryd.prog 30 [b_0, s_1] w R :=
  does_of_vc mixed Tryd.func30 (by kernel_rfl) (by kernel_rfl) ((S30_eq b_0 s_1 w R).mpr h)

end Go.Proofs.YtmgleeoecdodjaaDoor.Sh
