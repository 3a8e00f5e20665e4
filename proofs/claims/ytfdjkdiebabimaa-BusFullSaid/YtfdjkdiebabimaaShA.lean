/- The conditions of functions, printed by a program off the loaded code and held against it by the kernel. Conditions: none. -/
import Derived.Test.YtfdjkdiebabimaaV5
import Derived.Test.YtfdjkdiebabimaaProg
set_option linter.unusedVariables false
set_option maxRecDepth 100000
namespace Go.Proofs.Ytfdjkdiebabimaa.Sh
open Go Go.V
theorem mixed : Try.prog.follows .mixedOrders = true := by kernel_rfl
/-- busbar/busbarlaw25.BusHonest -/
def S3 (room_0 rules_1 script_2 : Value) (w : World) (R : Value → World → Prop) : Prop :=
  GoN Try.prog (callFunc 7 #[]) w fun t21 w1 =>
  Run Try.prog (Op.unary Go.UnOp.not t21) w1 fun t22 w2 =>
  CondP t22 1 (fun (k1 : N1) =>
    R (Go.Value.bool false) w2)
  (fun (k2 : N1) =>
    k2 (Go.Value.bool false) w2)
  (fun (t6 : Value) (w3 : World) => 
  GoN Try.prog (callFunc 8 #[room_0, rules_1]) w3 fun t26 w4 =>
  Run Try.prog (Instr.extract t26 0) w4 fun t27 w5 =>
  Run Try.prog (Instr.extract t26 1) w5 fun t28 w6 =>
  Run Try.prog (binSem Go.BinOp.neq 27 (Go.Operand.tmp 29) (Go.Operand.const Go.Value.nilIface) t28 Go.Value.nilIface) w6 fun t30 w7 =>
  GuardP t30 false (fun (k3 : N1) => k3 script_2 w7) w7 fun t32 w8 =>
  GuardP t30 false (fun (k4 : N1) => Run Try.prog (Builtin.len_ #[23] 3 #[t32]) w8 k4) w8 fun t33 w9 =>
  GuardP t30 false (fun (k5 : N1) => Run Try.prog (binSem Go.BinOp.gtr 3 (Go.Operand.tmp 33) (Go.Operand.const (Go.Value.int Go.IntKind.i64 400)) t33 (Go.Value.int Go.IntKind.i64 400)) w9 k5) w9 fun t34 w10 =>
  PickP t30 (Go.Value.bool true) t34 w10 fun t35 w11 =>
  CondP t35 1 (fun (k6 : N1) =>
    GoN Try.prog (callFunc 9 #[t28]) w11 fun t37 w12 =>
    Run Try.prog (binSem Go.BinOp.eql 3 (Go.Operand.tmp 37) (Go.Operand.const (Go.Value.int Go.IntKind.i64 1)) t37 (Go.Value.int Go.IntKind.i64 1)) w12 fun t38 w13 =>
    GuardP t38 false (fun (k7 : N1) => k7 script_2 w13) w13 fun t40 w14 =>
    GuardP t38 false (fun (k8 : N1) => Run Try.prog (Builtin.len_ #[23] 3 #[t40]) w14 k8) w14 fun t41 w15 =>
    GuardP t38 false (fun (k9 : N1) => Run Try.prog (binSem Go.BinOp.gtr 3 (Go.Operand.tmp 41) (Go.Operand.const (Go.Value.int Go.IntKind.i64 400)) t41 (Go.Value.int Go.IntKind.i64 400)) w15 k9) w15 fun t42 w16 =>
    PickP t38 (Go.Value.bool true) t42 w16 fun t43 w17 =>
    R t43 w17)
  (fun (k10 : N1) =>
    k10 t6 w11)
  (fun (t6 : Value) (w18 : World) => 
  JoinP 3 (fun (k11 : N3) =>
    LoopP 3 (fun (k12 : N3) => (fun (sent_9 : Value) (t6 : Value) (i_10 : Value) (w19 : World) => 
      Run Try.prog (Builtin.len_ #[23] 3 #[script_2]) w19 fun t46 w20 =>
      Run Try.prog (binSem Go.BinOp.lss 3 (Go.Operand.tmp 44) (Go.Operand.tmp 46) i_10 t46) w20 fun t47 w21 =>
      CondP t47 0 (fun (k13 : N0) =>
        k13 w21)
      (fun (k14 : N0) =>
        k11 sent_9 t6 i_10 w21)
      (fun (w22 : World) => 
      JoinP 2 (fun (k15 : N2) =>
        Run Try.prog (Instr.indexAt 23 script_2 i_10) w22 fun t52 w23 =>
        Run Try.prog (Instr.loadAt 40 t52) w23 fun t53 w24 =>
        Run Try.prog (Instr.alloc 40 true (.tuple #[])) w24 fun s_11 w25 =>
        RunU Try.prog (Instr.storeAt 40 s_11 t53) w25 fun w26 =>
        Run Try.prog (Instr.fieldAt 40 s_11 0) w26 fun t54 w27 =>
        Run Try.prog (Instr.loadAt 3 t54) w27 fun t55 w28 =>
        JoinP 2 (fun (k16 : N2) =>
          Run Try.prog (binSem Go.BinOp.eql 3 (Go.Operand.tmp 55) (Go.Operand.const (Go.Value.int Go.IntKind.i64 1)) t55 (Go.Value.int Go.IntKind.i64 1)) w28 fun t57 w29 =>
          CondP t57 2 (fun (k17 : N2) =>
            Run Try.prog (Instr.fieldAt 40 s_11 1) w29 fun t59 w30 =>
            Run Try.prog (Instr.loadAt 3 t59) w30 fun t60 w31 =>
            Run Try.prog (Instr.fieldAt 40 s_11 2) w31 fun t61 w32 =>
            Run Try.prog (Instr.loadAt 35 t61) w32 fun t62 w33 =>
            GoN Try.prog (callFunc 10 #[t27, t60, t62]) w33 fun t63 w34 =>
            Run Try.prog (binSem Go.BinOp.eql 27 (Go.Operand.tmp 63) (Go.Operand.const Go.Value.nilIface) t63 Go.Value.nilIface) w34 fun t64 w35 =>
            CondP t64 1 (fun (k18 : N1) =>
              Run Try.prog (Instr.fieldAt 40 s_11 2) w35 fun t65 w36 =>
              Run Try.prog (Instr.loadAt 35 t65) w36 fun t66 w37 =>
              GoN Try.prog (callFunc 11 #[t66]) w37 fun t67 w38 =>
              Run Try.prog (Instr.alloc 35 true (.tuple #[])) w38 fun f_12 w39 =>
              RunU Try.prog (Instr.storeAt 35 f_12 t67) w39 fun w40 =>
              Run Try.prog (Instr.fieldAt 40 s_11 1) w40 fun t69 w41 =>
              Run Try.prog (Instr.loadAt 3 t69) w41 fun t70 w42 =>
              Run Try.prog (Instr.loadAt 35 f_12) w42 fun t71 w43 =>
              Run Try.prog (Instr.build 44 #[(0, t70), (1, t71)]) w43 fun t72 w44 =>
              Run Try.prog (Instr.buildSlice 31 1 #[(0, t72)]) w44 fun t73 w45 =>
              Run Try.prog (Builtin.append_ #[31, 31] 31 #[sent_9, t73]) w45 fun t74 w46 =>
              k18 t74 w46)
            (fun (k19 : N1) =>
              k19 sent_9 w35)
            (fun (sent_9 : Value) (w47 : World) => 
            k17 sent_9 t6 w47))
          (fun (k20 : N2) =>
            Run Try.prog (binSem Go.BinOp.eql 3 (Go.Operand.tmp 55) (Go.Operand.const (Go.Value.int Go.IntKind.i64 2)) t55 (Go.Value.int Go.IntKind.i64 2)) w29 fun t76 w48 =>
            CondP t76 1 (fun (k21 : N1) =>
              Run Try.prog (Instr.fieldAt 40 s_11 3) w48 fun t77 w49 =>
              Run Try.prog (Instr.loadAt 38 t77) w49 fun t78 w50 =>
              Run Try.prog (Instr.alloc 38 true (.tuple #[])) w50 fun w_13 w51 =>
              RunU Try.prog (Instr.storeAt 38 w_13 t78) w51 fun w52 =>
              Run Try.prog (Instr.fieldAt 38 w_13 3) w52 fun t79 w53 =>
              Run Try.prog (Instr.loadAt 36 t79) w53 fun t80 w54 =>
              GoN Try.prog (callFunc 12 #[t80]) w54 fun t81 w55 =>
              Run Try.prog (Instr.fieldAt 38 w_13 3) w55 fun t82 w56 =>
              RunU Try.prog (Instr.storeAt 36 t82 t81) w56 fun w57 =>
              Run Try.prog (Instr.loadAt 38 w_13) w57 fun t84 w58 =>
              GoN Try.prog (callFunc 13 #[t27, t84]) w58 fun t85 w59 =>
              Run Try.prog (binSem Go.BinOp.neq 27 (Go.Operand.tmp 86) (Go.Operand.const Go.Value.nilIface) t85 Go.Value.nilIface) w59 fun t87 w60 =>
              GuardP t87 true (fun (k22 : N1) => k22 t85 w60) w60 fun t89 w61 =>
              GuardP t87 true (fun (k23 : N1) => GoN Try.prog (callFunc 9 #[t89]) w61 k23) w61 fun t90 w62 =>
              GuardP t87 true (fun (k24 : N1) => Run Try.prog (binSem Go.BinOp.neq 3 (Go.Operand.tmp 90) (Go.Operand.const (Go.Value.int Go.IntKind.i64 25)) t90 (Go.Value.int Go.IntKind.i64 25)) w62 k24) w62 fun t91 w63 =>
              PickP t87 t91 (Go.Value.bool false) w63 fun t92 w64 =>
              CondP t92 1 (fun (k25 : N1) =>
                R (Go.Value.bool false) w64)
              (fun (k26 : N1) =>
                k26 t6 w64)
              (fun (t6 : Value) (w65 : World) => 
              k21 t6 w65))
            (fun (k27 : N1) =>
              Run Try.prog (binSem Go.BinOp.eql 3 (Go.Operand.tmp 55) (Go.Operand.const (Go.Value.int Go.IntKind.i64 3)) t55 (Go.Value.int Go.IntKind.i64 3)) w48 fun t94 w66 =>
              CondP t94 1 (fun (k28 : N1) =>
                Run Try.prog (Instr.fieldAt 40 s_11 1) w66 fun t97 w67 =>
                Run Try.prog (Instr.loadAt 3 t97) w67 fun t98 w68 =>
                GoN Try.prog (callFunc 14 #[t27, t98]) w68 fun t99 w69 =>
                Run Try.prog (Instr.extract t99 0) w69 fun t100 w70 =>
                Run Try.prog (Instr.extract t99 1) w70 fun t101 w71 =>
                Run Try.prog (Instr.alloc 35 true (.tuple #[])) w71 fun f_15 w72 =>
                RunU Try.prog (Instr.storeAt 35 f_15 t100) w72 fun w73 =>
                Run Try.prog (binSem Go.BinOp.eql 27 (Go.Operand.tmp 102) (Go.Operand.const Go.Value.nilIface) t101 Go.Value.nilIface) w73 fun t103 w74 =>
                GuardP t103 true (fun (k29 : N1) => k29 sent_9 w74) w74 fun t105 w75 =>
                GuardP t103 true (fun (k30 : N1) => Run Try.prog (Instr.fieldAt 40 s_11 1) w75 k30) w75 fun t106 w76 =>
                GuardP t103 true (fun (k31 : N1) => Run Try.prog (Instr.loadAt 3 t106) w76 k31) w76 fun t107 w77 =>
                GuardP t103 true (fun (k32 : N1) => Run Try.prog (Instr.loadAt 35 f_15) w77 k32) w77 fun t108 w78 =>
                GuardP t103 true (fun (k33 : N1) => GoN Try.prog (callFunc 15 #[t105, t107, t108]) w78 k33) w78 fun t109 w79 =>
                GuardP t103 true (fun (k34 : N1) => Run Try.prog (Op.unary Go.UnOp.not t109) w79 k34) w79 fun t110 w80 =>
                PickP t103 t110 (Go.Value.bool false) w80 fun t111 w81 =>
                CondP t111 1 (fun (k35 : N1) =>
                  R (Go.Value.bool false) w81)
                (fun (k36 : N1) =>
                  k36 t6 w81)
                (fun (t6 : Value) (w82 : World) => 
                k28 t6 w82))
              (fun (k37 : N1) =>
                k37 t6 w66)
              (fun (t6 : Value) (w83 : World) => 
              k27 t6 w83))
            (fun (t6 : Value) (w84 : World) => 
            k20 sent_9 t6 w84))
          (fun (sent_9 : Value) (t6 : Value) (w85 : World) => 
          k16 sent_9 t6 w85))
        (fun (sent_9 : Value) (t6 : Value) (w86 : World) => 
        k15 sent_9 t6 w86))
      (fun (sent_9 : Value) (t6 : Value) (w87 : World) => 
      Run Try.prog (binSem Go.BinOp.add 3 (Go.Operand.tmp 48) (Go.Operand.const (Go.Value.int Go.IntKind.i64 1)) i_10 (Go.Value.int Go.IntKind.i64 1)) w87 fun t49 w88 =>
      k12 sent_9 t6 t49 w88))))
    [(Go.Value.slice none 0 0), t6, (Go.Value.int Go.IntKind.i64 0)] w18)
  (fun (sent_9 : Value) (t6 : Value) (i_10 : Value) (w89 : World) => 
  JoinP 2 (fun (k38 : N2) =>
    LoopP 2 (fun (k39 : N2) => (fun (t6 : Value) (k_17 : Value) (w90 : World) => 
      Run Try.prog (Builtin.len_ #[22] 3 #[rules_1]) w90 fun t114 w91 =>
      Run Try.prog (binSem Go.BinOp.lss 3 (Go.Operand.tmp 112) (Go.Operand.tmp 114) k_17 t114) w91 fun t115 w92 =>
      CondP t115 0 (fun (k40 : N0) =>
        k40 w92)
      (fun (k41 : N0) =>
        k38 t6 k_17 w92)
      (fun (w93 : World) => 
      JoinP 1 (fun (k42 : N1) =>
        JoinP 2 (fun (k43 : N2) =>
          LoopP 2 (fun (k44 : N2) => (fun (t6 : Value) (i_18 : Value) (w94 : World) => 
            Run Try.prog (binSem Go.BinOp.lss 3 (Go.Operand.tmp 118) (Go.Operand.const (Go.Value.int Go.IntKind.i64 64)) i_18 (Go.Value.int Go.IntKind.i64 64)) w94 fun t119 w95 =>
            CondP t119 0 (fun (k45 : N0) =>
              k45 w95)
            (fun (k46 : N0) =>
              k43 t6 i_18 w95)
            (fun (w96 : World) => 
            JoinP 1 (fun (k47 : N1) =>
              GoN Try.prog (callFunc 14 #[t27, k_17]) w96 fun t125 w97 =>
              Run Try.prog (Instr.extract t125 0) w97 fun t126 w98 =>
              Run Try.prog (Instr.extract t125 1) w98 fun t127 w99 =>
              Run Try.prog (Instr.alloc 35 true (.tuple #[])) w99 fun f_19 w100 =>
              RunU Try.prog (Instr.storeAt 35 f_19 t126) w100 fun w101 =>
              Run Try.prog (binSem Go.BinOp.eql 27 (Go.Operand.tmp 128) (Go.Operand.const Go.Value.nilIface) t127 Go.Value.nilIface) w101 fun t129 w102 =>
              GuardP t129 true (fun (k48 : N1) => k48 sent_9 w102) w102 fun t131 w103 =>
              GuardP t129 true (fun (k49 : N1) => k49 k_17 w103) w103 fun t132 w104 =>
              GuardP t129 true (fun (k50 : N1) => Run Try.prog (Instr.loadAt 35 f_19) w104 k50) w104 fun t133 w105 =>
              GuardP t129 true (fun (k51 : N1) => GoN Try.prog (callFunc 15 #[t131, t132, t133]) w105 k51) w105 fun t134 w106 =>
              GuardP t129 true (fun (k52 : N1) => Run Try.prog (Op.unary Go.UnOp.not t134) w106 k52) w106 fun t135 w107 =>
              PickP t129 t135 (Go.Value.bool false) w107 fun t136 w108 =>
              CondP t136 1 (fun (k53 : N1) =>
                R (Go.Value.bool false) w108)
              (fun (k54 : N1) =>
                k54 t6 w108)
              (fun (t6 : Value) (w109 : World) => 
              k47 t6 w109))
            (fun (t6 : Value) (w110 : World) => 
            Run Try.prog (binSem Go.BinOp.add 3 (Go.Operand.tmp 120) (Go.Operand.const (Go.Value.int Go.IntKind.i64 1)) i_18 (Go.Value.int Go.IntKind.i64 1)) w110 fun t121 w111 =>
            k44 t6 t121 w111))))
          [t6, (Go.Value.int Go.IntKind.i64 0)] w93)
        (fun (t6 : Value) (i_18 : Value) (w112 : World) => 
        k42 t6 w112))
      (fun (t6 : Value) (w113 : World) => 
      Run Try.prog (binSem Go.BinOp.add 3 (Go.Operand.tmp 116) (Go.Operand.const (Go.Value.int Go.IntKind.i64 1)) k_17 (Go.Value.int Go.IntKind.i64 1)) w113 fun t117 w114 =>
      k39 t6 t117 w114))))
    [t6, (Go.Value.int Go.IntKind.i64 0)] w89)
  (fun (t6 : Value) (k_17 : Value) (w115 : World) => 
  R (Go.Value.bool true) w115))))
theorem S3_eq (room_0 rules_1 script_2 : Value) (w : World) (R : Value → World → Prop) : vcFn Try.prog [] Try.f3 [room_0, rules_1, script_2] w R = S3 room_0 rules_1 script_2 w R := by kernel_rfl
theorem D3 {room_0 rules_1 script_2 : Value} {w : World} {R : Value → World → Prop} (h : S3 room_0 rules_1 script_2 w R) : Does Try.prog 3 [room_0, rules_1, script_2] w R :=
  does_of_vc [] mixed Try.func3 (by kernel_rfl) (by kernel_rfl) ((S3_eq room_0 rules_1 script_2 w R).mpr h)

/-- busbar/busbarlaw25.BusFull -/
def S5 (room_0 f_1 : Value) (w : World) (R : Value → World → Prop) : Prop :=
  Run Try.prog (Instr.box 35 f_1) w fun f_3 w1 =>
  GoN Try.prog (callFunc 7 #[]) w1 fun t17 w2 =>
  Run Try.prog (Op.unary Go.UnOp.not t17) w2 fun t18 w3 =>
  CondP t18 1 (fun (k1 : N1) =>
    R (Go.Value.bool false) w3)
  (fun (k2 : N1) =>
    k2 (Go.Value.bool false) w3)
  (fun (t4 : Value) (w4 : World) => 
  Run Try.prog (Instr.loadAt 35 f_3) w4 fun t20 w5 =>
  GoN Try.prog (callFunc 17 #[t20]) w5 fun t21 w6 =>
  Run Try.prog (Instr.extract t21 0) w6 fun t22 w7 =>
  Run Try.prog (Instr.extract t21 1) w7 fun t23 w8 =>
  Run Try.prog (binSem Go.BinOp.neq 27 (Go.Operand.tmp 24) (Go.Operand.const Go.Value.nilIface) t23 Go.Value.nilIface) w8 fun t25 w9 =>
  CondP t25 1 (fun (k3 : N1) =>
    R (Go.Value.bool true) w9)
  (fun (k4 : N1) =>
    k4 t4 w9)
  (fun (t4 : Value) (w10 : World) => 
  GoN Try.prog (callFunc 16 #[room_0, (Go.Value.int Go.IntKind.i64 64)]) w10 fun t27 w11 =>
  Run Try.prog (binSem Go.BinOp.add 3 (Go.Operand.const (Go.Value.int Go.IntKind.i64 1)) (Go.Operand.tmp 27) (Go.Value.int Go.IntKind.i64 1) t27) w11 fun t28 w12 =>
  GoN Try.prog (callFunc 21 #[(Go.Value.int Go.IntKind.i64 2)]) w12 fun t31 w13 =>
  GoN Try.prog (callFunc 8 #[t28, t31]) w13 fun t32 w14 =>
  Run Try.prog (Instr.extract t32 0) w14 fun t33 w15 =>
  Run Try.prog (Instr.extract t32 1) w15 fun t34 w16 =>
  Run Try.prog (binSem Go.BinOp.neq 27 (Go.Operand.tmp 35) (Go.Operand.const Go.Value.nilIface) t34 Go.Value.nilIface) w16 fun t36 w17 =>
  CondP t36 1 (fun (k5 : N1) =>
    R (Go.Value.bool false) w17)
  (fun (k6 : N1) =>
    k6 t4 w17)
  (fun (t4 : Value) (w18 : World) => 
  JoinP 2 (fun (k7 : N2) =>
    LoopP 2 (fun (k8 : N2) => (fun (t4 : Value) (i_9 : Value) (w19 : World) => 
      Run Try.prog (binSem Go.BinOp.lss 3 (Go.Operand.tmp 37) (Go.Operand.tmp 38) i_9 t28) w19 fun t39 w20 =>
      CondP t39 0 (fun (k9 : N0) =>
        k9 w20)
      (fun (k10 : N0) =>
        k7 t4 i_9 w20)
      (fun (w21 : World) => 
      JoinP 1 (fun (k11 : N1) =>
        Run Try.prog (Instr.loadAt 35 f_3) w21 fun t43 w22 =>
        GoN Try.prog (callFunc 10 #[t33, (Go.Value.int Go.IntKind.i64 0), t43]) w22 fun t44 w23 =>
        Run Try.prog (binSem Go.BinOp.neq 27 (Go.Operand.tmp 44) (Go.Operand.const Go.Value.nilIface) t44 Go.Value.nilIface) w23 fun t45 w24 =>
        CondP t45 1 (fun (k12 : N1) =>
          R (Go.Value.bool false) w24)
        (fun (k13 : N1) =>
          k13 t4 w24)
        (fun (t4 : Value) (w25 : World) => 
        k11 t4 w25))
      (fun (t4 : Value) (w26 : World) => 
      Run Try.prog (binSem Go.BinOp.add 3 (Go.Operand.tmp 40) (Go.Operand.const (Go.Value.int Go.IntKind.i64 1)) i_9 (Go.Value.int Go.IntKind.i64 1)) w26 fun t41 w27 =>
      k8 t4 t41 w27))))
    [t4, (Go.Value.int Go.IntKind.i64 0)] w18)
  (fun (t4 : Value) (i_9 : Value) (w28 : World) => 
  Run Try.prog (Instr.loadAt 35 f_3) w28 fun t47 w29 =>
  GoN Try.prog (callFunc 10 #[t33, (Go.Value.int Go.IntKind.i64 0), t47]) w29 fun t48 w30 =>
  Run Try.prog (Instr.loadAt 35 f_3) w30 fun t50 w31 =>
  GoN Try.prog (callFunc 10 #[t33, (Go.Value.int Go.IntKind.i64 0), t50]) w31 fun t51 w32 =>
  GoN Try.prog (callFunc 22 #[t33]) w32 fun t54 w33 =>
  Run Try.prog (Instr.extract t54 0) w33 fun t55 w34 =>
  Run Try.prog (Instr.extract t54 1) w34 fun t56 w35 =>
  GoN Try.prog (callFunc 23 #[t33, (Go.Value.int Go.IntKind.i64 0)]) w35 fun t59 w36 =>
  Run Try.prog (Instr.extract t59 0) w36 fun t60 w37 =>
  Run Try.prog (Instr.extract t59 1) w37 fun t61 w38 =>
  Run Try.prog (Instr.alloc 64 true (.tuple #[])) w38 fun c_14 w39 =>
  RunU Try.prog (Instr.storeAt 64 c_14 t60) w39 fun w40 =>
  GoN Try.prog (callFunc 9 #[t48]) w40 fun t63 w41 =>
  Run Try.prog (binSem Go.BinOp.neq 3 (Go.Operand.tmp 63) (Go.Operand.const (Go.Value.int Go.IntKind.i64 24)) t63 (Go.Value.int Go.IntKind.i64 24)) w41 fun t64 w42 =>
  GuardP t64 false (fun (k14 : N1) => k14 t51 w42) w42 fun t66 w43 =>
  GuardP t64 false (fun (k15 : N1) => GoN Try.prog (callFunc 9 #[t66]) w43 k15) w43 fun t67 w44 =>
  GuardP t64 false (fun (k16 : N1) => Run Try.prog (binSem Go.BinOp.neq 3 (Go.Operand.tmp 67) (Go.Operand.const (Go.Value.int Go.IntKind.i64 24)) t67 (Go.Value.int Go.IntKind.i64 24)) w44 k16) w44 fun t68 w45 =>
  PickP t64 (Go.Value.bool true) t68 w45 fun t69 w46 =>
  GuardP t69 false (fun (k17 : N1) => k17 t55 w46) w46 fun t71 w47 =>
  GuardP t69 false (fun (k18 : N1) => k18 t28 w47) w47 fun t72 w48 =>
  GuardP t69 false (fun (k19 : N1) => Run Try.prog (binSem Go.BinOp.neq 3 (Go.Operand.tmp 71) (Go.Operand.tmp 72) t71 t72) w48 k19) w48 fun t73 w49 =>
  PickP t69 (Go.Value.bool true) t73 w49 fun t74 w50 =>
  GuardP t74 false (fun (k20 : N1) => k20 t56 w50) w50 fun t76 w51 =>
  GuardP t74 false (fun (k21 : N1) => Run Try.prog (binSem Go.BinOp.neq 3 (Go.Operand.tmp 76) (Go.Operand.const (Go.Value.int Go.IntKind.i64 0)) t76 (Go.Value.int Go.IntKind.i64 0)) w51 k21) w51 fun t77 w52 =>
  PickP t74 (Go.Value.bool true) t77 w52 fun t78 w53 =>
  GuardP t78 false (fun (k22 : N1) => k22 t61 w53) w53 fun t80 w54 =>
  GuardP t78 false (fun (k23 : N1) => Run Try.prog (binSem Go.BinOp.neq 27 (Go.Operand.tmp 80) (Go.Operand.const Go.Value.nilIface) t80 Go.Value.nilIface) w54 k23) w54 fun t81 w55 =>
  PickP t78 (Go.Value.bool true) t81 w55 fun t82 w56 =>
  GuardP t82 false (fun (k24 : N1) => Run Try.prog (Instr.loadAt 64 c_14) w56 k24) w56 fun t84 w57 =>
  GuardP t82 false (fun (k25 : N1) => Run Try.prog (Instr.build 64 #[]) w57 k25) w57 fun t85 w58 =>
  GuardP t82 false (fun (k26 : N1) => Run Try.prog (binSem Go.BinOp.neq 64 (Go.Operand.tmp 84) (Go.Operand.tmp 85) t84 t85) w58 k26) w58 fun t86 w59 =>
  PickP t82 (Go.Value.bool true) t86 w59 fun t87 w60 =>
  CondP t87 1 (fun (k27 : N1) =>
    R (Go.Value.bool false) w60)
  (fun (k28 : N1) =>
    k28 t4 w60)
  (fun (t4 : Value) (w61 : World) => 
  Run Try.prog (Instr.build 38 #[(0, (Go.Value.bool true))]) w61 fun t89 w62 =>
  GoN Try.prog (callFunc 13 #[t33, t89]) w62 fun t90 w63 =>
  Run Try.prog (binSem Go.BinOp.neq 27 (Go.Operand.tmp 90) (Go.Operand.const Go.Value.nilIface) t90 Go.Value.nilIface) w63 fun t91 w64 =>
  GuardP t91 false (fun (k29 : N1) => k29 t33 w64) w64 fun t93 w65 =>
  GuardP t91 false (fun (k30 : N1) => Run Try.prog (Instr.loadAt 35 f_3) w65 k30) w65 fun t94 w66 =>
  GuardP t91 false (fun (k31 : N1) => GoN Try.prog (callFunc 10 #[t93, (Go.Value.int Go.IntKind.i64 0), t94]) w66 k31) w66 fun t95 w67 =>
  GuardP t91 false (fun (k32 : N1) => Run Try.prog (binSem Go.BinOp.neq 27 (Go.Operand.tmp 95) (Go.Operand.const Go.Value.nilIface) t95 Go.Value.nilIface) w67 k32) w67 fun t96 w68 =>
  PickP t91 (Go.Value.bool true) t96 w68 fun t97 w69 =>
  GuardP t97 false (fun (k33 : N1) => k33 t33 w69) w69 fun t99 w70 =>
  GuardP t97 false (fun (k34 : N1) => Run Try.prog (Instr.loadAt 35 f_3) w70 k34) w70 fun t100 w71 =>
  GuardP t97 false (fun (k35 : N1) => GoN Try.prog (callFunc 10 #[t99, (Go.Value.int Go.IntKind.i64 0), t100]) w71 k35) w71 fun t101 w72 =>
  GuardP t97 false (fun (k36 : N1) => GoN Try.prog (callFunc 9 #[t101]) w72 k36) w72 fun t102 w73 =>
  GuardP t97 false (fun (k37 : N1) => Run Try.prog (binSem Go.BinOp.neq 3 (Go.Operand.tmp 102) (Go.Operand.const (Go.Value.int Go.IntKind.i64 24)) t102 (Go.Value.int Go.IntKind.i64 24)) w73 k37) w73 fun t103 w74 =>
  PickP t97 (Go.Value.bool true) t103 w74 fun t104 w75 =>
  CondP t104 1 (fun (k38 : N1) =>
    R (Go.Value.bool false) w75)
  (fun (k39 : N1) =>
    k39 t4 w75)
  (fun (t4 : Value) (w76 : World) => 
  JoinP 2 (fun (k40 : N2) =>
    LoopP 2 (fun (k41 : N2) => (fun (t4 : Value) (i_16 : Value) (w77 : World) => 
      Run Try.prog (binSem Go.BinOp.lss 3 (Go.Operand.tmp 105) (Go.Operand.tmp 106) i_16 t28) w77 fun t107 w78 =>
      CondP t107 0 (fun (k42 : N0) =>
        k42 w78)
      (fun (k43 : N0) =>
        k40 t4 i_16 w78)
      (fun (w79 : World) => 
      JoinP 1 (fun (k44 : N1) =>
        Run Try.prog (Instr.build 38 #[(1, (Go.Value.bool true))]) w79 fun t111 w80 =>
        GoN Try.prog (callFunc 13 #[t33, t111]) w80 fun t112 w81 =>
        Run Try.prog (binSem Go.BinOp.neq 27 (Go.Operand.tmp 112) (Go.Operand.const Go.Value.nilIface) t112 Go.Value.nilIface) w81 fun t113 w82 =>
        CondP t113 1 (fun (k45 : N1) =>
          R (Go.Value.bool false) w82)
        (fun (k46 : N1) =>
          k46 t4 w82)
        (fun (t4 : Value) (w83 : World) => 
        k44 t4 w83))
      (fun (t4 : Value) (w84 : World) => 
      Run Try.prog (binSem Go.BinOp.add 3 (Go.Operand.tmp 108) (Go.Operand.const (Go.Value.int Go.IntKind.i64 1)) i_16 (Go.Value.int Go.IntKind.i64 1)) w84 fun t109 w85 =>
      k41 t4 t109 w85))))
    [t4, (Go.Value.int Go.IntKind.i64 0)] w76)
  (fun (t4 : Value) (i_16 : Value) (w86 : World) => 
  GoN Try.prog (callFunc 23 #[t33, (Go.Value.int Go.IntKind.i64 1)]) w86 fun t116 w87 =>
  Run Try.prog (Instr.extract t116 0) w87 fun t117 w88 =>
  Run Try.prog (Instr.extract t116 1) w88 fun t118 w89 =>
  RunU Try.prog (Instr.storeAt 64 c_14 t117) w89 fun w90 =>
  Run Try.prog (binSem Go.BinOp.eql 27 (Go.Operand.tmp 119) (Go.Operand.const Go.Value.nilIface) t118 Go.Value.nilIface) w90 fun t120 w91 =>
  GuardP t120 true (fun (k47 : N1) => Run Try.prog (Instr.fieldAt 64 c_14 1) w91 k47) w91 fun t122 w92 =>
  GuardP t120 true (fun (k48 : N1) => Run Try.prog (Instr.loadAt 3 t122) w92 k48) w92 fun t123 w93 =>
  GuardP t120 true (fun (k49 : N1) => k49 t28 w93) w93 fun t124 w94 =>
  GuardP t120 true (fun (k50 : N1) => Run Try.prog (binSem Go.BinOp.eql 3 (Go.Operand.tmp 123) (Go.Operand.tmp 124) t123 t124) w94 k50) w94 fun t125 w95 =>
  PickP t120 t125 (Go.Value.bool false) w95 fun t126 w96 =>
  GuardP t126 true (fun (k51 : N1) => Run Try.prog (Instr.fieldAt 64 c_14 4) w96 k51) w96 fun t128 w97 =>
  GuardP t126 true (fun (k52 : N1) => Run Try.prog (Instr.loadAt 3 t128) w97 k52) w97 fun t129 w98 =>
  GuardP t126 true (fun (k53 : N1) => k53 t28 w98) w98 fun t130 w99 =>
  GuardP t126 true (fun (k54 : N1) => Run Try.prog (binSem Go.BinOp.eql 3 (Go.Operand.tmp 129) (Go.Operand.tmp 130) t129 t130) w99 k54) w99 fun t131 w100 =>
  PickP t126 t131 (Go.Value.bool false) w100 fun t132 w101 =>
  GuardP t132 true (fun (k55 : N1) => Run Try.prog (Instr.fieldAt 64 c_14 3) w101 k55) w101 fun t134 w102 =>
  GuardP t132 true (fun (k56 : N1) => Run Try.prog (Instr.loadAt 3 t134) w102 k56) w102 fun t135 w103 =>
  GuardP t132 true (fun (k57 : N1) => Run Try.prog (binSem Go.BinOp.eql 3 (Go.Operand.tmp 135) (Go.Operand.const (Go.Value.int Go.IntKind.i64 0)) t135 (Go.Value.int Go.IntKind.i64 0)) w103 k57) w103 fun t136 w104 =>
  PickP t132 t136 (Go.Value.bool false) w104 fun t137 w105 =>
  GuardP t137 true (fun (k58 : N1) => Run Try.prog (Instr.fieldAt 64 c_14 2) w105 k58) w105 fun t139 w106 =>
  GuardP t137 true (fun (k59 : N1) => Run Try.prog (Instr.loadAt 3 t139) w106 k59) w106 fun t140 w107 =>
  GuardP t137 true (fun (k60 : N1) => Run Try.prog (binSem Go.BinOp.eql 3 (Go.Operand.tmp 140) (Go.Operand.const (Go.Value.int Go.IntKind.i64 0)) t140 (Go.Value.int Go.IntKind.i64 0)) w107 k60) w107 fun t141 w108 =>
  PickP t137 t141 (Go.Value.bool false) w108 fun t142 w109 =>
  R t142 w109)))))))
theorem S5_eq (room_0 f_1 : Value) (w : World) (R : Value → World → Prop) : vcFn Try.prog [] Try.f5 [room_0, f_1] w R = S5 room_0 f_1 w R := by kernel_rfl
theorem D5 {room_0 f_1 : Value} {w : World} {R : Value → World → Prop} (h : S5 room_0 f_1 w R) : Does Try.prog 5 [room_0, f_1] w R :=
  does_of_vc [] mixed Try.func5 (by kernel_rfl) (by kernel_rfl) ((S5_eq room_0 f_1 w R).mpr h)

/-- busbar/busbarlaw25.BusKnown -/
def S6 (w : World) (R : Value → World → Prop) : Prop :=
  GoN Try.prog (callFunc 21 #[(Go.Value.int Go.IntKind.i64 3)]) w fun t19 w1 =>
  Run Try.prog (Instr.build 69 #[(1, (Go.Value.int Go.IntKind.u32 5)), (2, (Go.Value.int Go.IntKind.u32 2047))]) w1 fun t21 w2 =>
  Run Try.prog (Instr.buildSlice 57 1 #[(0, t21)]) w2 fun t22 w3 =>
  Run Try.prog (Instr.indexAt 22 t19 (Go.Value.int Go.IntKind.i64 2)) w3 fun t23 w4 =>
  RunU Try.prog (Instr.storeAt 57 t23 t22) w4 fun w5 =>
  GoN Try.prog (callFunc 8 #[(Go.Value.int Go.IntKind.i64 2), t19]) w5 fun t26 w6 =>
  Run Try.prog (Instr.extract t26 0) w6 fun t27 w7 =>
  Run Try.prog (Instr.extract t26 1) w7 fun t28 w8 =>
  Run Try.prog (binSem Go.BinOp.neq 27 (Go.Operand.tmp 29) (Go.Operand.const Go.Value.nilIface) t28 Go.Value.nilIface) w8 fun t30 w9 =>
  GuardP t30 false (fun (k1 : N1) => k1 t27 w9) w9 fun t32 w10 =>
  GuardP t30 false (fun (k2 : N1) => Run Try.prog (Instr.build 38 #[]) w10 k2) w10 fun t33 w11 =>
  GuardP t30 false (fun (k3 : N1) => GoN Try.prog (callFunc 13 #[t32, t33]) w11 k3) w11 fun t34 w12 =>
  GuardP t30 false (fun (k4 : N1) => GoN Try.prog (callFunc 9 #[t34]) w12 k4) w12 fun t35 w13 =>
  GuardP t30 false (fun (k5 : N1) => Run Try.prog (binSem Go.BinOp.neq 3 (Go.Operand.tmp 35) (Go.Operand.const (Go.Value.int Go.IntKind.i64 25)) t35 (Go.Value.int Go.IntKind.i64 25)) w13 k5) w13 fun t36 w14 =>
  PickP t30 (Go.Value.bool true) t36 w14 fun t37 w15 =>
  GuardP t37 false (fun (k6 : N1) => k6 t27 w15) w15 fun t39 w16 =>
  GuardP t37 false (fun (k7 : N1) => Run Try.prog (Instr.build 35 #[(0, (Go.Value.int Go.IntKind.u32 5))]) w16 k7) w16 fun t40 w17 =>
  GuardP t37 false (fun (k8 : N1) => GoN Try.prog (callFunc 10 #[t39, (Go.Value.int Go.IntKind.i64 (-1)), t40]) w17 k8) w17 fun t41 w18 =>
  GuardP t37 false (fun (k9 : N1) => GoN Try.prog (callFunc 9 #[t41]) w18 k9) w18 fun t42 w19 =>
  GuardP t37 false (fun (k10 : N1) => Run Try.prog (binSem Go.BinOp.neq 3 (Go.Operand.tmp 42) (Go.Operand.const (Go.Value.int Go.IntKind.i64 1)) t42 (Go.Value.int Go.IntKind.i64 1)) w19 k10) w19 fun t43 w20 =>
  PickP t37 (Go.Value.bool true) t43 w20 fun t44 w21 =>
  GuardP t44 false (fun (k11 : N1) => k11 t27 w21) w21 fun t46 w22 =>
  GuardP t44 false (fun (k12 : N1) => Run Try.prog (Instr.build 35 #[(0, (Go.Value.int Go.IntKind.u32 5))]) w22 k12) w22 fun t47 w23 =>
  GuardP t44 false (fun (k13 : N1) => GoN Try.prog (callFunc 10 #[t46, (Go.Value.int Go.IntKind.i64 3), t47]) w23 k13) w23 fun t48 w24 =>
  GuardP t44 false (fun (k14 : N1) => GoN Try.prog (callFunc 9 #[t48]) w24 k14) w24 fun t49 w25 =>
  GuardP t44 false (fun (k15 : N1) => Run Try.prog (binSem Go.BinOp.neq 3 (Go.Operand.tmp 49) (Go.Operand.const (Go.Value.int Go.IntKind.i64 1)) t49 (Go.Value.int Go.IntKind.i64 1)) w25 k15) w25 fun t50 w26 =>
  PickP t44 (Go.Value.bool true) t50 w26 fun t51 w27 =>
  CondP t51 1 (fun (k16 : N1) =>
    R (Go.Value.bool false) w27)
  (fun (k17 : N1) =>
    k17 (Go.Value.bool false) w27)
  (fun (t0 : Value) (w28 : World) => 
  GoN Try.prog (callFunc 14 #[t27, (Go.Value.int Go.IntKind.i64 0)]) w28 fun t54 w29 =>
  Run Try.prog (Instr.extract t54 0) w29 fun t55 w30 =>
  Run Try.prog (Instr.extract t54 1) w30 fun t56 w31 =>
  Run Try.prog (Instr.alloc 35 true (.tuple #[])) w31 fun t4 w32 =>
  RunU Try.prog (Instr.storeAt 35 t4 t55) w32 fun w33 =>
  GoN Try.prog (callFunc 14 #[t27, (Go.Value.int Go.IntKind.i64 3)]) w33 fun t59 w34 =>
  Run Try.prog (Instr.extract t59 0) w34 fun t60 w35 =>
  Run Try.prog (Instr.extract t59 1) w35 fun t61 w36 =>
  Run Try.prog (Instr.alloc 35 true (.tuple #[])) w36 fun t6 w37 =>
  RunU Try.prog (Instr.storeAt 35 t6 t60) w37 fun w38 =>
  GoN Try.prog (callFunc 23 #[t27, (Go.Value.int Go.IntKind.i64 3)]) w38 fun t64 w39 =>
  Run Try.prog (Instr.extract t64 0) w39 fun t65 w40 =>
  Run Try.prog (Instr.extract t64 1) w40 fun t66 w41 =>
  Run Try.prog (Instr.alloc 64 true (.tuple #[])) w41 fun t8 w42 =>
  RunU Try.prog (Instr.storeAt 64 t8 t65) w42 fun w43 =>
  GoN Try.prog (callFunc 9 #[t56]) w43 fun t68 w44 =>
  Run Try.prog (binSem Go.BinOp.neq 3 (Go.Operand.tmp 68) (Go.Operand.const (Go.Value.int Go.IntKind.i64 25)) t68 (Go.Value.int Go.IntKind.i64 25)) w44 fun t69 w45 =>
  GuardP t69 false (fun (k18 : N1) => k18 t61 w45) w45 fun t71 w46 =>
  GuardP t69 false (fun (k19 : N1) => GoN Try.prog (callFunc 9 #[t71]) w46 k19) w46 fun t72 w47 =>
  GuardP t69 false (fun (k20 : N1) => Run Try.prog (binSem Go.BinOp.neq 3 (Go.Operand.tmp 72) (Go.Operand.const (Go.Value.int Go.IntKind.i64 1)) t72 (Go.Value.int Go.IntKind.i64 1)) w47 k20) w47 fun t73 w48 =>
  PickP t69 (Go.Value.bool true) t73 w48 fun t74 w49 =>
  GuardP t74 false (fun (k21 : N1) => k21 t66 w49) w49 fun t76 w50 =>
  GuardP t74 false (fun (k22 : N1) => GoN Try.prog (callFunc 9 #[t76]) w50 k22) w50 fun t77 w51 =>
  GuardP t74 false (fun (k23 : N1) => Run Try.prog (binSem Go.BinOp.neq 3 (Go.Operand.tmp 77) (Go.Operand.const (Go.Value.int Go.IntKind.i64 1)) t77 (Go.Value.int Go.IntKind.i64 1)) w51 k23) w51 fun t78 w52 =>
  PickP t74 (Go.Value.bool true) t78 w52 fun t79 w53 =>
  CondP t79 1 (fun (k24 : N1) =>
    R (Go.Value.bool false) w53)
  (fun (k25 : N1) =>
    k25 t0 w53)
  (fun (t0 : Value) (w54 : World) => 
  Run Try.prog (Instr.build 35 #[(0, (Go.Value.int Go.IntKind.u32 7))]) w54 fun t81 w55 =>
  GoN Try.prog (callFunc 10 #[t27, (Go.Value.int Go.IntKind.i64 0), t81]) w55 fun t82 w56 =>
  Run Try.prog (binSem Go.BinOp.neq 27 (Go.Operand.tmp 82) (Go.Operand.const Go.Value.nilIface) t82 Go.Value.nilIface) w56 fun t83 w57 =>
  GuardP t83 false (fun (k26 : N1) => k26 t27 w57) w57 fun t85 w58 =>
  GuardP t83 false (fun (k27 : N1) => Run Try.prog (Instr.build 35 #[(0, (Go.Value.int Go.IntKind.u32 1))]) w58 k27) w58 fun t86 w59 =>
  GuardP t83 false (fun (k28 : N1) => GoN Try.prog (callFunc 10 #[t85, (Go.Value.int Go.IntKind.i64 0), t86]) w59 k28) w59 fun t87 w60 =>
  GuardP t83 false (fun (k29 : N1) => Run Try.prog (binSem Go.BinOp.neq 27 (Go.Operand.tmp 87) (Go.Operand.const Go.Value.nilIface) t87 Go.Value.nilIface) w60 k29) w60 fun t88 w61 =>
  PickP t83 (Go.Value.bool true) t88 w61 fun t89 w62 =>
  GuardP t89 false (fun (k30 : N1) => k30 t27 w62) w62 fun t91 w63 =>
  GuardP t89 false (fun (k31 : N1) => Run Try.prog (Instr.build 35 #[(0, (Go.Value.int Go.IntKind.u32 2))]) w63 k31) w63 fun t92 w64 =>
  GuardP t89 false (fun (k32 : N1) => GoN Try.prog (callFunc 10 #[t91, (Go.Value.int Go.IntKind.i64 0), t92]) w64 k32) w64 fun t93 w65 =>
  GuardP t89 false (fun (k33 : N1) => GoN Try.prog (callFunc 9 #[t93]) w65 k33) w65 fun t94 w66 =>
  GuardP t89 false (fun (k34 : N1) => Run Try.prog (binSem Go.BinOp.neq 3 (Go.Operand.tmp 94) (Go.Operand.const (Go.Value.int Go.IntKind.i64 24)) t94 (Go.Value.int Go.IntKind.i64 24)) w66 k34) w66 fun t95 w67 =>
  PickP t89 (Go.Value.bool true) t95 w67 fun t96 w68 =>
  GuardP t96 false (fun (k35 : N1) => k35 t27 w68) w68 fun t98 w69 =>
  GuardP t96 false (fun (k36 : N1) => Run Try.prog (Instr.build 35 #[(0, (Go.Value.int Go.IntKind.u32 5))]) w69 k36) w69 fun t99 w70 =>
  GuardP t96 false (fun (k37 : N1) => GoN Try.prog (callFunc 10 #[t98, (Go.Value.int Go.IntKind.i64 1), t99]) w70 k37) w70 fun t100 w71 =>
  GuardP t96 false (fun (k38 : N1) => Run Try.prog (binSem Go.BinOp.neq 27 (Go.Operand.tmp 100) (Go.Operand.const Go.Value.nilIface) t100 Go.Value.nilIface) w71 k38) w71 fun t101 w72 =>
  PickP t96 (Go.Value.bool true) t101 w72 fun t102 w73 =>
  GuardP t102 false (fun (k39 : N1) => k39 t27 w73) w73 fun t104 w74 =>
  GuardP t102 false (fun (k40 : N1) => Run Try.prog (Instr.build 35 #[(0, (Go.Value.int Go.IntKind.u32 2048))]) w74 k40) w74 fun t105 w75 =>
  GuardP t102 false (fun (k41 : N1) => GoN Try.prog (callFunc 10 #[t104, (Go.Value.int Go.IntKind.i64 2), t105]) w75 k41) w75 fun t106 w76 =>
  GuardP t102 false (fun (k42 : N1) => GoN Try.prog (callFunc 9 #[t106]) w76 k42) w76 fun t107 w77 =>
  GuardP t102 false (fun (k43 : N1) => Run Try.prog (binSem Go.BinOp.neq 3 (Go.Operand.tmp 107) (Go.Operand.const (Go.Value.int Go.IntKind.i64 26)) t107 (Go.Value.int Go.IntKind.i64 26)) w77 k43) w77 fun t108 w78 =>
  PickP t102 (Go.Value.bool true) t108 w78 fun t109 w79 =>
  CondP t109 1 (fun (k44 : N1) =>
    R (Go.Value.bool false) w79)
  (fun (k45 : N1) =>
    k45 t0 w79)
  (fun (t0 : Value) (w80 : World) => 
  GoN Try.prog (callFunc 22 #[t27]) w80 fun t112 w81 =>
  Run Try.prog (Instr.extract t112 0) w81 fun t113 w82 =>
  Run Try.prog (Instr.extract t112 1) w82 fun t114 w83 =>
  Run Try.prog (binSem Go.BinOp.neq 3 (Go.Operand.tmp 115) (Go.Operand.const (Go.Value.int Go.IntKind.i64 3)) t113 (Go.Value.int Go.IntKind.i64 3)) w83 fun t116 w84 =>
  GuardP t116 false (fun (k46 : N1) => k46 t114 w84) w84 fun t118 w85 =>
  GuardP t116 false (fun (k47 : N1) => Run Try.prog (binSem Go.BinOp.neq 3 (Go.Operand.tmp 118) (Go.Operand.const (Go.Value.int Go.IntKind.i64 0)) t118 (Go.Value.int Go.IntKind.i64 0)) w85 k47) w85 fun t119 w86 =>
  PickP t116 (Go.Value.bool true) t119 w86 fun t120 w87 =>
  GuardP t120 false (fun (k48 : N1) => k48 t27 w87) w87 fun t122 w88 =>
  GuardP t120 false (fun (k49 : N1) => Run Try.prog (Instr.build 38 #[]) w88 k49) w88 fun t123 w89 =>
  GuardP t120 false (fun (k50 : N1) => GoN Try.prog (callFunc 13 #[t122, t123]) w89 k50) w89 fun t124 w90 =>
  GuardP t120 false (fun (k51 : N1) => Run Try.prog (binSem Go.BinOp.neq 27 (Go.Operand.tmp 124) (Go.Operand.const Go.Value.nilIface) t124 Go.Value.nilIface) w90 k51) w90 fun t125 w91 =>
  PickP t120 (Go.Value.bool true) t125 w91 fun t126 w92 =>
  CondP t126 1 (fun (k52 : N1) =>
    R (Go.Value.bool false) w92)
  (fun (k53 : N1) =>
    k53 t0 w92)
  (fun (t0 : Value) (w93 : World) => 
  GoN Try.prog (callFunc 14 #[t27, (Go.Value.int Go.IntKind.i64 0)]) w93 fun t129 w94 =>
  Run Try.prog (Instr.extract t129 0) w94 fun t130 w95 =>
  Run Try.prog (Instr.extract t129 1) w95 fun t131 w96 =>
  Run Try.prog (Instr.alloc 35 true (.tuple #[])) w96 fun f_12 w97 =>
  RunU Try.prog (Instr.storeAt 35 f_12 t130) w97 fun w98 =>
  GoN Try.prog (callFunc 14 #[t27, (Go.Value.int Go.IntKind.i64 1)]) w98 fun t134 w99 =>
  Run Try.prog (Instr.extract t134 0) w99 fun t135 w100 =>
  Run Try.prog (Instr.extract t134 1) w100 fun t136 w101 =>
  GoN Try.prog (callFunc 14 #[t27, (Go.Value.int Go.IntKind.i64 2)]) w101 fun t139 w102 =>
  Run Try.prog (Instr.extract t139 0) w102 fun t140 w103 =>
  Run Try.prog (Instr.extract t139 1) w103 fun t141 w104 =>
  Run Try.prog (Instr.alloc 35 true (.tuple #[])) w104 fun g_13 w105 =>
  RunU Try.prog (Instr.storeAt 35 g_13 t140) w105 fun w106 =>
  Run Try.prog (binSem Go.BinOp.neq 27 (Go.Operand.tmp 142) (Go.Operand.const Go.Value.nilIface) t131 Go.Value.nilIface) w106 fun t143 w107 =>
  GuardP t143 false (fun (k54 : N1) => k54 t136 w107) w107 fun t145 w108 =>
  GuardP t143 false (fun (k55 : N1) => GoN Try.prog (callFunc 9 #[t145]) w108 k55) w108 fun t146 w109 =>
  GuardP t143 false (fun (k56 : N1) => Run Try.prog (binSem Go.BinOp.neq 3 (Go.Operand.tmp 146) (Go.Operand.const (Go.Value.int Go.IntKind.i64 25)) t146 (Go.Value.int Go.IntKind.i64 25)) w109 k56) w109 fun t147 w110 =>
  PickP t143 (Go.Value.bool true) t147 w110 fun t148 w111 =>
  GuardP t148 false (fun (k57 : N1) => k57 t141 w111) w111 fun t150 w112 =>
  GuardP t148 false (fun (k58 : N1) => Run Try.prog (binSem Go.BinOp.neq 27 (Go.Operand.tmp 150) (Go.Operand.const Go.Value.nilIface) t150 Go.Value.nilIface) w112 k58) w112 fun t151 w113 =>
  PickP t148 (Go.Value.bool true) t151 w113 fun t152 w114 =>
  GuardP t152 false (fun (k59 : N1) => Run Try.prog (Instr.fieldAt 35 f_12 0) w114 k59) w114 fun t154 w115 =>
  GuardP t152 false (fun (k60 : N1) => Run Try.prog (Instr.loadAt 32 t154) w115 k60) w115 fun t155 w116 =>
  GuardP t152 false (fun (k61 : N1) => Run Try.prog (binSem Go.BinOp.neq 32 (Go.Operand.tmp 155) (Go.Operand.const (Go.Value.int Go.IntKind.u32 5)) t155 (Go.Value.int Go.IntKind.u32 5)) w116 k61) w116 fun t156 w117 =>
  PickP t152 (Go.Value.bool true) t156 w117 fun t157 w118 =>
  GuardP t157 false (fun (k62 : N1) => Run Try.prog (Instr.fieldAt 35 g_13 0) w118 k62) w118 fun t159 w119 =>
  GuardP t157 false (fun (k63 : N1) => Run Try.prog (Instr.loadAt 32 t159) w119 k63) w119 fun t160 w120 =>
  GuardP t157 false (fun (k64 : N1) => Run Try.prog (binSem Go.BinOp.neq 32 (Go.Operand.tmp 160) (Go.Operand.const (Go.Value.int Go.IntKind.u32 5)) t160 (Go.Value.int Go.IntKind.u32 5)) w120 k64) w120 fun t161 w121 =>
  PickP t157 (Go.Value.bool true) t161 w121 fun t162 w122 =>
  CondP t162 1 (fun (k65 : N1) =>
    R (Go.Value.bool false) w122)
  (fun (k66 : N1) =>
    k66 t0 w122)
  (fun (t0 : Value) (w123 : World) => 
  Run Try.prog (Instr.buildSlice 36 5 #[(0, (Go.Value.int Go.IntKind.i64 3)), (1, (Go.Value.int Go.IntKind.i64 99)), (2, (Go.Value.int Go.IntKind.i64 (-1))), (3, (Go.Value.int Go.IntKind.i64 3)), (4, (Go.Value.int Go.IntKind.i64 3))]) w123 fun t164 w124 =>
  Run Try.prog (Instr.build 38 #[(3, t164)]) w124 fun t165 w125 =>
  GoN Try.prog (callFunc 13 #[t27, t165]) w125 fun t166 w126 =>
  Run Try.prog (binSem Go.BinOp.neq 27 (Go.Operand.tmp 166) (Go.Operand.const Go.Value.nilIface) t166 Go.Value.nilIface) w126 fun t167 w127 =>
  CondP t167 1 (fun (k67 : N1) =>
    R (Go.Value.bool false) w127)
  (fun (k68 : N1) =>
    k68 t0 w127)
  (fun (t0 : Value) (w128 : World) => 
  GoN Try.prog (callFunc 23 #[t27, (Go.Value.int Go.IntKind.i64 1)]) w128 fun t170 w129 =>
  Run Try.prog (Instr.extract t170 0) w129 fun t171 w130 =>
  Run Try.prog (Instr.extract t170 1) w130 fun t172 w131 =>
  Run Try.prog (Instr.alloc 64 true (.tuple #[])) w131 fun c_14 w132 =>
  RunU Try.prog (Instr.storeAt 64 c_14 t171) w132 fun w133 =>
  GoN Try.prog (callFunc 23 #[t27, (Go.Value.int Go.IntKind.i64 2)]) w133 fun t175 w134 =>
  Run Try.prog (Instr.extract t175 0) w134 fun t176 w135 =>
  Run Try.prog (Instr.extract t175 1) w135 fun t177 w136 =>
  Run Try.prog (Instr.alloc 64 true (.tuple #[])) w136 fun d_15 w137 =>
  RunU Try.prog (Instr.storeAt 64 d_15 t176) w137 fun w138 =>
  GoN Try.prog (callFunc 23 #[t27, (Go.Value.int Go.IntKind.i64 0)]) w138 fun t180 w139 =>
  Run Try.prog (Instr.extract t180 0) w139 fun t181 w140 =>
  Run Try.prog (Instr.extract t180 1) w140 fun t182 w141 =>
  Run Try.prog (Instr.alloc 64 true (.tuple #[])) w141 fun a_16 w142 =>
  RunU Try.prog (Instr.storeAt 64 a_16 t181) w142 fun w143 =>
  Run Try.prog (binSem Go.BinOp.neq 27 (Go.Operand.tmp 183) (Go.Operand.const Go.Value.nilIface) t172 Go.Value.nilIface) w143 fun t184 w144 =>
  GuardP t184 false (fun (k69 : N1) => k69 t177 w144) w144 fun t186 w145 =>
  GuardP t184 false (fun (k70 : N1) => Run Try.prog (binSem Go.BinOp.neq 27 (Go.Operand.tmp 186) (Go.Operand.const Go.Value.nilIface) t186 Go.Value.nilIface) w145 k70) w145 fun t187 w146 =>
  PickP t184 (Go.Value.bool true) t187 w146 fun t188 w147 =>
  GuardP t188 false (fun (k71 : N1) => k71 t182 w147) w147 fun t190 w148 =>
  GuardP t188 false (fun (k72 : N1) => Run Try.prog (binSem Go.BinOp.neq 27 (Go.Operand.tmp 190) (Go.Operand.const Go.Value.nilIface) t190 Go.Value.nilIface) w148 k72) w148 fun t191 w149 =>
  PickP t188 (Go.Value.bool true) t191 w149 fun t192 w150 =>
  GuardP t192 false (fun (k73 : N1) => Run Try.prog (Instr.fieldAt 64 c_14 3) w150 k73) w150 fun t194 w151 =>
  GuardP t192 false (fun (k74 : N1) => Run Try.prog (Instr.loadAt 3 t194) w151 k74) w151 fun t195 w152 =>
  GuardP t192 false (fun (k75 : N1) => Run Try.prog (binSem Go.BinOp.neq 3 (Go.Operand.tmp 195) (Go.Operand.const (Go.Value.int Go.IntKind.i64 1)) t195 (Go.Value.int Go.IntKind.i64 1)) w152 k75) w152 fun t196 w153 =>
  PickP t192 (Go.Value.bool true) t196 w153 fun t197 w154 =>
  GuardP t197 false (fun (k76 : N1) => Run Try.prog (Instr.fieldAt 64 d_15 3) w154 k76) w154 fun t199 w155 =>
  GuardP t197 false (fun (k77 : N1) => Run Try.prog (Instr.loadAt 3 t199) w155 k77) w155 fun t200 w156 =>
  GuardP t197 false (fun (k78 : N1) => Run Try.prog (binSem Go.BinOp.neq 3 (Go.Operand.tmp 200) (Go.Operand.const (Go.Value.int Go.IntKind.i64 1)) t200 (Go.Value.int Go.IntKind.i64 1)) w156 k78) w156 fun t201 w157 =>
  PickP t197 (Go.Value.bool true) t201 w157 fun t202 w158 =>
  GuardP t202 false (fun (k79 : N1) => Run Try.prog (Instr.fieldAt 64 a_16 3) w158 k79) w158 fun t204 w159 =>
  GuardP t202 false (fun (k80 : N1) => Run Try.prog (Instr.loadAt 3 t204) w159 k80) w159 fun t205 w160 =>
  GuardP t202 false (fun (k81 : N1) => Run Try.prog (binSem Go.BinOp.neq 3 (Go.Operand.tmp 205) (Go.Operand.const (Go.Value.int Go.IntKind.i64 0)) t205 (Go.Value.int Go.IntKind.i64 0)) w160 k81) w160 fun t206 w161 =>
  PickP t202 (Go.Value.bool true) t206 w161 fun t207 w162 =>
  GuardP t207 false (fun (k82 : N1) => Run Try.prog (Instr.fieldAt 64 a_16 0) w162 k82) w162 fun t209 w163 =>
  GuardP t207 false (fun (k83 : N1) => Run Try.prog (Instr.loadAt 3 t209) w163 k83) w163 fun t210 w164 =>
  GuardP t207 false (fun (k84 : N1) => Run Try.prog (binSem Go.BinOp.neq 3 (Go.Operand.tmp 210) (Go.Operand.const (Go.Value.int Go.IntKind.i64 1)) t210 (Go.Value.int Go.IntKind.i64 1)) w164 k84) w164 fun t211 w165 =>
  PickP t207 (Go.Value.bool true) t211 w165 fun t212 w166 =>
  GuardP t212 false (fun (k85 : N1) => Run Try.prog (Instr.fieldAt 64 a_16 1) w166 k85) w166 fun t214 w167 =>
  GuardP t212 false (fun (k86 : N1) => Run Try.prog (Instr.loadAt 3 t214) w167 k86) w167 fun t215 w168 =>
  GuardP t212 false (fun (k87 : N1) => Run Try.prog (binSem Go.BinOp.neq 3 (Go.Operand.tmp 215) (Go.Operand.const (Go.Value.int Go.IntKind.i64 1)) t215 (Go.Value.int Go.IntKind.i64 1)) w168 k87) w168 fun t216 w169 =>
  PickP t212 (Go.Value.bool true) t216 w169 fun t217 w170 =>
  CondP t217 1 (fun (k88 : N1) =>
    R (Go.Value.bool false) w170)
  (fun (k89 : N1) =>
    k89 t0 w170)
  (fun (t0 : Value) (w171 : World) => 
  Run Try.prog (Instr.build 38 #[(1, (Go.Value.bool true)), (2, (Go.Value.int Go.IntKind.i64 1))]) w171 fun t219 w172 =>
  GoN Try.prog (callFunc 13 #[t27, t219]) w172 fun t220 w173 =>
  Run Try.prog (binSem Go.BinOp.neq 27 (Go.Operand.tmp 220) (Go.Operand.const Go.Value.nilIface) t220 Go.Value.nilIface) w173 fun t221 w174 =>
  CondP t221 1 (fun (k90 : N1) =>
    R (Go.Value.bool false) w174)
  (fun (k91 : N1) =>
    k91 t0 w174)
  (fun (t0 : Value) (w175 : World) => 
  GoN Try.prog (callFunc 22 #[t27]) w175 fun t224 w176 =>
  Run Try.prog (Instr.extract t224 0) w176 fun t225 w177 =>
  Run Try.prog (Instr.extract t224 1) w177 fun t226 w178 =>
  GoN Try.prog (callFunc 14 #[t27, (Go.Value.int Go.IntKind.i64 1)]) w178 fun t229 w179 =>
  Run Try.prog (Instr.extract t229 0) w179 fun t230 w180 =>
  Run Try.prog (Instr.extract t229 1) w180 fun t231 w181 =>
  Run Try.prog (binSem Go.BinOp.neq 3 (Go.Operand.tmp 232) (Go.Operand.const (Go.Value.int Go.IntKind.i64 0)) t225 (Go.Value.int Go.IntKind.i64 0)) w181 fun t233 w182 =>
  GuardP t233 false (fun (k92 : N1) => k92 t226 w182) w182 fun t235 w183 =>
  GuardP t233 false (fun (k93 : N1) => Run Try.prog (binSem Go.BinOp.neq 3 (Go.Operand.tmp 235) (Go.Operand.const (Go.Value.int Go.IntKind.i64 1)) t235 (Go.Value.int Go.IntKind.i64 1)) w183 k93) w183 fun t236 w184 =>
  PickP t233 (Go.Value.bool true) t236 w184 fun t237 w185 =>
  GuardP t237 false (fun (k94 : N1) => k94 t231 w185) w185 fun t239 w186 =>
  GuardP t237 false (fun (k95 : N1) => GoN Try.prog (callFunc 9 #[t239]) w186 k95) w186 fun t240 w187 =>
  GuardP t237 false (fun (k96 : N1) => Run Try.prog (binSem Go.BinOp.neq 3 (Go.Operand.tmp 240) (Go.Operand.const (Go.Value.int Go.IntKind.i64 25)) t240 (Go.Value.int Go.IntKind.i64 25)) w187 k96) w187 fun t241 w188 =>
  PickP t237 (Go.Value.bool true) t241 w188 fun t242 w189 =>
  GuardP t242 false (fun (k97 : N1) => k97 t27 w189) w189 fun t244 w190 =>
  GuardP t242 false (fun (k98 : N1) => Run Try.prog (Instr.build 38 #[(0, (Go.Value.bool true))]) w190 k98) w190 fun t245 w191 =>
  GuardP t242 false (fun (k99 : N1) => GoN Try.prog (callFunc 13 #[t244, t245]) w191 k99) w191 fun t246 w192 =>
  GuardP t242 false (fun (k100 : N1) => Run Try.prog (binSem Go.BinOp.neq 27 (Go.Operand.tmp 246) (Go.Operand.const Go.Value.nilIface) t246 Go.Value.nilIface) w192 k100) w192 fun t247 w193 =>
  PickP t242 (Go.Value.bool true) t247 w193 fun t248 w194 =>
  CondP t248 1 (fun (k101 : N1) =>
    R (Go.Value.bool false) w194)
  (fun (k102 : N1) =>
    k102 t0 w194)
  (fun (t0 : Value) (w195 : World) => 
  GoN Try.prog (callFunc 14 #[t27, (Go.Value.int Go.IntKind.i64 1)]) w195 fun t251 w196 =>
  Run Try.prog (Instr.extract t251 0) w196 fun t252 w197 =>
  Run Try.prog (Instr.extract t251 1) w197 fun t253 w198 =>
  RunU Try.prog (Instr.storeAt 35 f_12 t252) w198 fun w199 =>
  GoN Try.prog (callFunc 14 #[t27, (Go.Value.int Go.IntKind.i64 1)]) w199 fun t256 w200 =>
  Run Try.prog (Instr.extract t256 0) w200 fun t257 w201 =>
  Run Try.prog (Instr.extract t256 1) w201 fun t258 w202 =>
  RunU Try.prog (Instr.storeAt 35 g_13 t257) w202 fun w203 =>
  GoN Try.prog (callFunc 23 #[t27, (Go.Value.int Go.IntKind.i64 2)]) w203 fun t261 w204 =>
  Run Try.prog (Instr.extract t261 0) w204 fun t262 w205 =>
  Run Try.prog (Instr.extract t261 1) w205 fun t263 w206 =>
  RunU Try.prog (Instr.storeAt 64 d_15 t262) w206 fun w207 =>
  Run Try.prog (binSem Go.BinOp.neq 27 (Go.Operand.tmp 264) (Go.Operand.const Go.Value.nilIface) t253 Go.Value.nilIface) w207 fun t265 w208 =>
  GuardP t265 false (fun (k103 : N1) => k103 t258 w208) w208 fun t267 w209 =>
  GuardP t265 false (fun (k104 : N1) => Run Try.prog (binSem Go.BinOp.neq 27 (Go.Operand.tmp 267) (Go.Operand.const Go.Value.nilIface) t267 Go.Value.nilIface) w209 k104) w209 fun t268 w210 =>
  PickP t265 (Go.Value.bool true) t268 w210 fun t269 w211 =>
  GuardP t269 false (fun (k105 : N1) => k105 t263 w211) w211 fun t271 w212 =>
  GuardP t269 false (fun (k106 : N1) => Run Try.prog (binSem Go.BinOp.neq 27 (Go.Operand.tmp 271) (Go.Operand.const Go.Value.nilIface) t271 Go.Value.nilIface) w212 k106) w212 fun t272 w213 =>
  PickP t269 (Go.Value.bool true) t272 w213 fun t273 w214 =>
  GuardP t273 false (fun (k107 : N1) => Run Try.prog (Instr.fieldAt 35 f_12 0) w214 k107) w214 fun t275 w215 =>
  GuardP t273 false (fun (k108 : N1) => Run Try.prog (Instr.loadAt 32 t275) w215 k108) w215 fun t276 w216 =>
  GuardP t273 false (fun (k109 : N1) => Run Try.prog (binSem Go.BinOp.neq 32 (Go.Operand.tmp 276) (Go.Operand.const (Go.Value.int Go.IntKind.u32 1)) t276 (Go.Value.int Go.IntKind.u32 1)) w216 k109) w216 fun t277 w217 =>
  PickP t273 (Go.Value.bool true) t277 w217 fun t278 w218 =>
  GuardP t278 false (fun (k110 : N1) => Run Try.prog (Instr.fieldAt 35 g_13 0) w218 k110) w218 fun t280 w219 =>
  GuardP t278 false (fun (k111 : N1) => Run Try.prog (Instr.loadAt 32 t280) w219 k111) w219 fun t281 w220 =>
  GuardP t278 false (fun (k112 : N1) => Run Try.prog (binSem Go.BinOp.neq 32 (Go.Operand.tmp 281) (Go.Operand.const (Go.Value.int Go.IntKind.u32 1)) t281 (Go.Value.int Go.IntKind.u32 1)) w220 k112) w220 fun t282 w221 =>
  PickP t278 (Go.Value.bool true) t282 w221 fun t283 w222 =>
  GuardP t283 false (fun (k113 : N1) => Run Try.prog (Instr.fieldAt 64 d_15 2) w222 k113) w222 fun t285 w223 =>
  GuardP t283 false (fun (k114 : N1) => Run Try.prog (Instr.loadAt 3 t285) w223 k114) w223 fun t286 w224 =>
  GuardP t283 false (fun (k115 : N1) => Run Try.prog (binSem Go.BinOp.neq 3 (Go.Operand.tmp 286) (Go.Operand.const (Go.Value.int Go.IntKind.i64 2)) t286 (Go.Value.int Go.IntKind.i64 2)) w224 k115) w224 fun t287 w225 =>
  PickP t283 (Go.Value.bool true) t287 w225 fun t288 w226 =>
  GuardP t288 false (fun (k116 : N1) => k116 t27 w226) w226 fun t290 w227 =>
  GuardP t288 false (fun (k117 : N1) => Run Try.prog (Instr.build 38 #[]) w227 k117) w227 fun t291 w228 =>
  GuardP t288 false (fun (k118 : N1) => GoN Try.prog (callFunc 13 #[t290, t291]) w228 k118) w228 fun t292 w229 =>
  GuardP t288 false (fun (k119 : N1) => GoN Try.prog (callFunc 9 #[t292]) w229 k119) w229 fun t293 w230 =>
  GuardP t288 false (fun (k120 : N1) => Run Try.prog (binSem Go.BinOp.neq 3 (Go.Operand.tmp 293) (Go.Operand.const (Go.Value.int Go.IntKind.i64 25)) t293 (Go.Value.int Go.IntKind.i64 25)) w230 k120) w230 fun t294 w231 =>
  PickP t288 (Go.Value.bool true) t294 w231 fun t295 w232 =>
  CondP t295 1 (fun (k121 : N1) =>
    R (Go.Value.bool false) w232)
  (fun (k122 : N1) =>
    k122 t0 w232)
  (fun (t0 : Value) (w233 : World) => 
  GoN Try.prog (callFunc 8 #[(Go.Value.int Go.IntKind.i64 0), t19]) w233 fun t298 w234 =>
  Run Try.prog (Instr.extract t298 0) w234 fun t299 w235 =>
  Run Try.prog (Instr.extract t298 1) w235 fun t300 w236 =>
  GoN Try.prog (callFunc 8 #[(Go.Value.int Go.IntKind.i64 65), t19]) w236 fun t303 w237 =>
  Run Try.prog (Instr.extract t303 0) w237 fun t304 w238 =>
  Run Try.prog (Instr.extract t303 1) w238 fun t305 w239 =>
  GoN Try.prog (callFunc 8 #[(Go.Value.int Go.IntKind.i64 1), (Go.Value.slice none 0 0)]) w239 fun t307 w240 =>
  Run Try.prog (Instr.extract t307 0) w240 fun t308 w241 =>
  Run Try.prog (Instr.extract t307 1) w241 fun t309 w242 =>
  GoN Try.prog (callFunc 21 #[(Go.Value.int Go.IntKind.i64 9)]) w242 fun t311 w243 =>
  GoN Try.prog (callFunc 8 #[(Go.Value.int Go.IntKind.i64 1), t311]) w243 fun t312 w244 =>
  Run Try.prog (Instr.extract t312 0) w244 fun t313 w245 =>
  Run Try.prog (Instr.extract t312 1) w245 fun t314 w246 =>
  GoN Try.prog (callFunc 9 #[t300]) w246 fun t316 w247 =>
  Run Try.prog (binSem Go.BinOp.eql 3 (Go.Operand.tmp 316) (Go.Operand.const (Go.Value.int Go.IntKind.i64 1)) t316 (Go.Value.int Go.IntKind.i64 1)) w247 fun t317 w248 =>
  GuardP t317 true (fun (k123 : N1) => k123 t305 w248) w248 fun t319 w249 =>
  GuardP t317 true (fun (k124 : N1) => GoN Try.prog (callFunc 9 #[t319]) w249 k124) w249 fun t320 w250 =>
  GuardP t317 true (fun (k125 : N1) => Run Try.prog (binSem Go.BinOp.eql 3 (Go.Operand.tmp 320) (Go.Operand.const (Go.Value.int Go.IntKind.i64 1)) t320 (Go.Value.int Go.IntKind.i64 1)) w250 k125) w250 fun t321 w251 =>
  PickP t317 t321 (Go.Value.bool false) w251 fun t322 w252 =>
  GuardP t322 true (fun (k126 : N1) => k126 t309 w252) w252 fun t324 w253 =>
  GuardP t322 true (fun (k127 : N1) => GoN Try.prog (callFunc 9 #[t324]) w253 k127) w253 fun t325 w254 =>
  GuardP t322 true (fun (k128 : N1) => Run Try.prog (binSem Go.BinOp.eql 3 (Go.Operand.tmp 325) (Go.Operand.const (Go.Value.int Go.IntKind.i64 1)) t325 (Go.Value.int Go.IntKind.i64 1)) w254 k128) w254 fun t326 w255 =>
  PickP t322 t326 (Go.Value.bool false) w255 fun t327 w256 =>
  GuardP t327 true (fun (k129 : N1) => k129 t314 w256) w256 fun t329 w257 =>
  GuardP t327 true (fun (k130 : N1) => GoN Try.prog (callFunc 9 #[t329]) w257 k130) w257 fun t330 w258 =>
  GuardP t327 true (fun (k131 : N1) => Run Try.prog (binSem Go.BinOp.eql 3 (Go.Operand.tmp 330) (Go.Operand.const (Go.Value.int Go.IntKind.i64 1)) t330 (Go.Value.int Go.IntKind.i64 1)) w258 k131) w258 fun t331 w259 =>
  PickP t327 t331 (Go.Value.bool false) w259 fun t332 w260 =>
  R t332 w260))))))))))
theorem S6_eq (w : World) (R : Value → World → Prop) : vcFn Try.prog [] Try.f6 [] w R = S6 w R := by kernel_rfl
theorem D6 {w : World} {R : Value → World → Prop} (h : S6 w R) : Does Try.prog 6 [] w R :=
  does_of_vc [] mixed Try.func6 (by kernel_rfl) (by kernel_rfl) ((S6_eq w R).mpr h)

/-- busbar/busbarlaw25.works -/
def S7 (w : World) (R : Value → World → Prop) : Prop :=
  GoN Try.prog (callFunc 21 #[(Go.Value.int Go.IntKind.i64 2)]) w fun t5 w1 =>
  GoN Try.prog (callFunc 8 #[(Go.Value.int Go.IntKind.i64 2), t5]) w1 fun t6 w2 =>
  Run Try.prog (Instr.extract t6 0) w2 fun t7 w3 =>
  Run Try.prog (Instr.extract t6 1) w3 fun t8 w4 =>
  Run Try.prog (binSem Go.BinOp.neq 27 (Go.Operand.tmp 9) (Go.Operand.const Go.Value.nilIface) t8 Go.Value.nilIface) w4 fun t10 w5 =>
  GuardP t10 false (fun (k1 : N1) => k1 t7 w5) w5 fun t12 w6 =>
  GuardP t10 false (fun (k2 : N1) => Run Try.prog (binSem Go.BinOp.eql 25 (Go.Operand.tmp 12) (Go.Operand.const (Go.Value.pointer none)) t12 (Go.Value.pointer none)) w6 k2) w6 fun t13 w7 =>
  PickP t10 (Go.Value.bool true) t13 w7 fun t14 w8 =>
  GuardP t14 false (fun (k3 : N1) => k3 t7 w8) w8 fun t16 w9 =>
  GuardP t14 false (fun (k4 : N1) => Run Try.prog (Instr.buildSlice 33 1 #[(0, (Go.Value.int Go.IntKind.u8 9))]) w9 k4) w9 fun t17 w10 =>
  GuardP t14 false (fun (k5 : N1) => Run Try.prog (Instr.build 35 #[(0, (Go.Value.int Go.IntKind.u32 5)), (2, t17)]) w10 k5) w10 fun t18 w11 =>
  GuardP t14 false (fun (k6 : N1) => GoN Try.prog (callFunc 10 #[t16, (Go.Value.int Go.IntKind.i64 0), t18]) w11 k6) w11 fun t19 w12 =>
  GuardP t14 false (fun (k7 : N1) => Run Try.prog (binSem Go.BinOp.neq 27 (Go.Operand.tmp 19) (Go.Operand.const Go.Value.nilIface) t19 Go.Value.nilIface) w12 k7) w12 fun t20 w13 =>
  PickP t14 (Go.Value.bool true) t20 w13 fun t21 w14 =>
  GuardP t21 false (fun (k8 : N1) => k8 t7 w14) w14 fun t23 w15 =>
  GuardP t21 false (fun (k9 : N1) => Run Try.prog (Instr.build 38 #[]) w15 k9) w15 fun t24 w16 =>
  GuardP t21 false (fun (k10 : N1) => GoN Try.prog (callFunc 13 #[t23, t24]) w16 k10) w16 fun t25 w17 =>
  GuardP t21 false (fun (k11 : N1) => Run Try.prog (binSem Go.BinOp.neq 27 (Go.Operand.tmp 25) (Go.Operand.const Go.Value.nilIface) t25 Go.Value.nilIface) w17 k11) w17 fun t26 w18 =>
  PickP t21 (Go.Value.bool true) t26 w18 fun t27 w19 =>
  CondP t27 1 (fun (k12 : N1) =>
    R (Go.Value.bool false) w19)
  (fun (k13 : N1) =>
    k13 (Go.Value.bool false) w19)
  (fun (t0 : Value) (w20 : World) => 
  GoN Try.prog (callFunc 14 #[t7, (Go.Value.int Go.IntKind.i64 1)]) w20 fun t30 w21 =>
  Run Try.prog (Instr.extract t30 0) w21 fun t31 w22 =>
  Run Try.prog (Instr.extract t30 1) w22 fun t32 w23 =>
  Run Try.prog (Instr.alloc 35 true (.tuple #[])) w23 fun f_3 w24 =>
  RunU Try.prog (Instr.storeAt 35 f_3 t31) w24 fun w25 =>
  Run Try.prog (binSem Go.BinOp.eql 27 (Go.Operand.tmp 33) (Go.Operand.const Go.Value.nilIface) t32 Go.Value.nilIface) w25 fun t34 w26 =>
  GuardP t34 true (fun (k14 : N1) => Run Try.prog (Instr.loadAt 35 f_3) w26 k14) w26 fun t36 w27 =>
  GuardP t34 true (fun (k15 : N1) => Run Try.prog (Instr.buildSlice 33 1 #[(0, (Go.Value.int Go.IntKind.u8 9))]) w27 k15) w27 fun t37 w28 =>
  GuardP t34 true (fun (k16 : N1) => Run Try.prog (Instr.build 35 #[(0, (Go.Value.int Go.IntKind.u32 5)), (2, t37)]) w28 k16) w28 fun t38 w29 =>
  GuardP t34 true (fun (k17 : N1) => GoN Try.prog (callFunc 20 #[t36, t38]) w29 k17) w29 fun t39 w30 =>
  PickP t34 t39 (Go.Value.bool false) w30 fun t40 w31 =>
  R t40 w31)
theorem S7_eq (w : World) (R : Value → World → Prop) : vcFn Try.prog [] Try.f7 [] w R = S7 w R := by kernel_rfl
theorem D7 {w : World} {R : Value → World → Prop} (h : S7 w R) : Does Try.prog 7 [] w R :=
  does_of_vc [] mixed Try.func7 (by kernel_rfl) (by kernel_rfl) ((S7_eq w R).mpr h)

end Go.Proofs.Ytfdjkdiebabimaa.Sh
