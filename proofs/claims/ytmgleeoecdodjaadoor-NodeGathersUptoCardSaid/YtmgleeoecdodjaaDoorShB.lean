/- The conditions of functions, printed by a program off the loaded code and held against it by the kernel. Conditions: none. -/
import Derived.Test.YtmgleeoecdodjaaDoorV5
import Derived.Test.YtmgleeoecdodjaaDoorProg
set_option linter.unusedVariables false
set_option maxRecDepth 100000
namespace Go.Proofs.YtmgleeoecdodjaaDoor.Sh
open Go Go.V
theorem mixed : Tryd.prog.follows .mixedOrders = true := by kernel_rfl
/-- busbar/busbarkit.ApartBytes -/
def S31 (ls_0 : Value) (w : World) (R : Value → World → Prop) : Prop :=
  JoinP 1 (fun (k1 : N1) =>
    LoopP 1 (fun (k2 : N1) => (fun (k_3 : Value) (w1 : World) => 
      Run Tryd.prog (Builtin.len_ #[51] 3 #[ls_0]) w1 fun t14 w2 =>
      Run Tryd.prog (binSem Go.BinOp.lss 3 (Go.Operand.tmp 12) (Go.Operand.tmp 14) k_3 t14) w2 fun t15 w3 =>
      CondP t15 0 (fun (k3 : N0) =>
        k3 w3)
      (fun (k4 : N0) =>
        k1 k_3 w3)
      (fun (w4 : World) => 
      JoinP 0 (fun (k5 : N0) =>
        JoinP 1 (fun (k6 : N1) =>
          LoopP 1 (fun (k7 : N1) => (fun (i_4 : Value) (w5 : World) => 
            Run Tryd.prog (Instr.indexAt 51 ls_0 k_3) w5 fun t21 w6 =>
            Run Tryd.prog (Instr.loadAt 140 t21) w6 fun t22 w7 =>
            Run Tryd.prog (Builtin.len_ #[140] 3 #[t22]) w7 fun t23 w8 =>
            Run Tryd.prog (binSem Go.BinOp.lss 3 (Go.Operand.tmp 18) (Go.Operand.tmp 23) i_4 t23) w8 fun t24 w9 =>
            CondP t24 0 (fun (k8 : N0) =>
              k8 w9)
            (fun (k9 : N0) =>
              k6 i_4 w9)
            (fun (w10 : World) => 
            JoinP 0 (fun (k10 : N0) =>
              ∀ w11, Ext w10 w11 →
              RunQ Tryd.prog (Instr.indexAt 51 ls_0 k_3) w11 fun t29 =>
              RunQ Tryd.prog (Instr.loadAt 140 t29) w11 fun t30 =>
              GoN Tryd.prog (callFunc 57 #[k_3, i_4]) w11 fun t34 w12 => Ext w11 w12 ∧
              RunQ Tryd.prog (Instr.indexAt 140 t30 i_4) w11 fun t35 =>
              RunU Tryd.prog (Instr.storeAt 5 t35 t34) w12 fun w13 =>
              k10 w13)
            (fun (w14 : World) => 
            Run Tryd.prog (binSem Go.BinOp.add 3 (Go.Operand.tmp 25) (Go.Operand.const (Go.Value.int Go.IntKind.i64 1)) i_4 (Go.Value.int Go.IntKind.i64 1)) w14 fun t26 w15 =>
            k7 t26 w15))))
          [(Go.Value.int Go.IntKind.i64 0)] w4)
        (fun (i_4 : Value) (w16 : World) => 
        k5 w16))
      (fun (w17 : World) => 
      Run Tryd.prog (binSem Go.BinOp.add 3 (Go.Operand.tmp 16) (Go.Operand.const (Go.Value.int Go.IntKind.i64 1)) k_3 (Go.Value.int Go.IntKind.i64 1)) w17 fun t17 w18 =>
      k2 t17 w18))))
    [(Go.Value.int Go.IntKind.i64 0)] w)
  (fun (k_3 : Value) (w19 : World) => 
  JoinP 2 (fun (k11 : N2) =>
    LoopP 2 (fun (k12 : N2) => (fun (gs_5 : Value) (k_6 : Value) (w20 : World) => 
      Run Tryd.prog (Builtin.len_ #[51] 3 #[ls_0]) w20 fun t38 w21 =>
      Run Tryd.prog (binSem Go.BinOp.lss 3 (Go.Operand.tmp 36) (Go.Operand.tmp 38) k_6 t38) w21 fun t39 w22 =>
      CondP t39 0 (fun (k13 : N0) =>
        k13 w22)
      (fun (k14 : N0) =>
        k11 gs_5 k_6 w22)
      (fun (w23 : World) => 
      JoinP 1 (fun (k15 : N1) =>
        Run Tryd.prog (Instr.indexAt 51 ls_0 k_6) w23 fun t44 w24 =>
        Run Tryd.prog (Instr.loadAt 140 t44) w24 fun t45 w25 =>
        JoinP 2 (fun (k16 : N2) =>
          LoopP 2 (fun (k17 : N2) => (fun (g_7 : Value) (i_8 : Value) (w26 : World) => 
            Run Tryd.prog (binSem Go.BinOp.lss 3 (Go.Operand.tmp 46) (Go.Operand.const (Go.Value.int Go.IntKind.i64 64)) i_8 (Go.Value.int Go.IntKind.i64 64)) w26 fun t47 w27 =>
            CondP t47 0 (fun (k18 : N0) =>
              k18 w27)
            (fun (k19 : N0) =>
              k16 g_7 i_8 w27)
            (fun (w28 : World) => 
            JoinP 1 (fun (k20 : N1) =>
              Run Tryd.prog (Instr.indexAt 51 ls_0 k_6) w28 fun t54 w29 =>
              Run Tryd.prog (Instr.loadAt 140 t54) w29 fun t55 w30 =>
              Run Tryd.prog (Builtin.len_ #[140] 3 #[t55]) w30 fun t56 w31 =>
              Run Tryd.prog (binSem Go.BinOp.add 3 (Go.Operand.tmp 56) (Go.Operand.tmp 57) t56 i_8) w31 fun t58 w32 =>
              GoN Tryd.prog (callFunc 57 #[k_6, t58]) w32 fun t59 w33 =>
              Run Tryd.prog (Instr.buildSlice 140 1 #[(0, t59)]) w33 fun t60 w34 =>
              Run Tryd.prog (Builtin.append_ #[140, 140] 140 #[g_7, t60]) w34 fun t61 w35 =>
              k20 t61 w35)
            (fun (g_7 : Value) (w36 : World) => 
            Run Tryd.prog (binSem Go.BinOp.add 3 (Go.Operand.tmp 48) (Go.Operand.const (Go.Value.int Go.IntKind.i64 1)) i_8 (Go.Value.int Go.IntKind.i64 1)) w36 fun t49 w37 =>
            k17 g_7 t49 w37))))
          [t45, (Go.Value.int Go.IntKind.i64 0)] w25)
        (fun (g_7 : Value) (i_8 : Value) (w38 : World) => 
        Run Tryd.prog (Instr.buildSlice 51 1 #[(0, g_7)]) w38 fun t64 w39 =>
        Run Tryd.prog (Builtin.append_ #[51, 51] 51 #[gs_5, t64]) w39 fun t65 w40 =>
        k15 t65 w40))
      (fun (gs_5 : Value) (w41 : World) => 
      Run Tryd.prog (binSem Go.BinOp.add 3 (Go.Operand.tmp 40) (Go.Operand.const (Go.Value.int Go.IntKind.i64 1)) k_6 (Go.Value.int Go.IntKind.i64 1)) w41 fun t41 w42 =>
      k12 gs_5 t41 w42))))
    [(Go.Value.slice none 0 0), (Go.Value.int Go.IntKind.i64 0)] w19)
  (fun (gs_5 : Value) (k_6 : Value) (w43 : World) => 
  JoinP 2 (fun (k21 : N2) =>
    LoopP 2 (fun (k22 : N2) => (fun (t2 : Value) (k_9 : Value) (w44 : World) => 
      Run Tryd.prog (Builtin.len_ #[51] 3 #[ls_0]) w44 fun t68 w45 =>
      Run Tryd.prog (binSem Go.BinOp.lss 3 (Go.Operand.tmp 66) (Go.Operand.tmp 68) k_9 t68) w45 fun t69 w46 =>
      CondP t69 0 (fun (k23 : N0) =>
        k23 w46)
      (fun (k24 : N0) =>
        k21 t2 k_9 w46)
      (fun (w47 : World) => 
      JoinP 1 (fun (k25 : N1) =>
        JoinP 2 (fun (k26 : N2) =>
          LoopP 2 (fun (k27 : N2) => (fun (t2 : Value) (i_10 : Value) (w48 : World) => 
            Run Tryd.prog (Instr.indexAt 51 gs_5 k_9) w48 fun t75 w49 =>
            Run Tryd.prog (Instr.loadAt 140 t75) w49 fun t76 w50 =>
            Run Tryd.prog (Builtin.len_ #[140] 3 #[t76]) w50 fun t77 w51 =>
            Run Tryd.prog (binSem Go.BinOp.lss 3 (Go.Operand.tmp 72) (Go.Operand.tmp 77) i_10 t77) w51 fun t78 w52 =>
            CondP t78 0 (fun (k28 : N0) =>
              k28 w52)
            (fun (k29 : N0) =>
              k26 t2 i_10 w52)
            (fun (w53 : World) => 
            JoinP 1 (fun (k30 : N1) =>
              GoN Tryd.prog (callFunc 57 #[k_9, i_10]) w53 fun t83 w54 =>
              Run Tryd.prog (Instr.indexAt 51 gs_5 k_9) w54 fun t86 w55 =>
              Run Tryd.prog (Instr.loadAt 140 t86) w55 fun t87 w56 =>
              Run Tryd.prog (Instr.indexAt 140 t87 i_10) w56 fun t89 w57 =>
              Run Tryd.prog (Instr.loadAt 5 t89) w57 fun t90 w58 =>
              Run Tryd.prog (binSem Go.BinOp.neq 5 (Go.Operand.tmp 90) (Go.Operand.tmp 91) t90 t83) w58 fun t92 w59 =>
              GuardP t92 false (fun (k31 : N1) => k31 i_10 w59) w59 fun t94 w60 =>
              GuardP t92 false (fun (k32 : N1) => k32 ls_0 w60) w60 fun t95 w61 =>
              GuardP t92 false (fun (k33 : N1) => k33 k_9 w61) w61 fun t96 w62 =>
              GuardP t92 false (fun (k34 : N1) => Run Tryd.prog (Instr.indexAt 51 t95 t96) w62 k34) w62 fun t97 w63 =>
              GuardP t92 false (fun (k35 : N1) => Run Tryd.prog (Instr.loadAt 140 t97) w63 k35) w63 fun t98 w64 =>
              GuardP t92 false (fun (k36 : N1) => Run Tryd.prog (Builtin.len_ #[140] 3 #[t98]) w64 k36) w64 fun t99 w65 =>
              GuardP t92 false (fun (k37 : N1) => Run Tryd.prog (binSem Go.BinOp.lss 3 (Go.Operand.tmp 94) (Go.Operand.tmp 99) t94 t99) w65 k37) w65 fun t100 w66 =>
              GuardP t92 false (fun (k38 : N1) => k38 t100 w66) w66 fun t101 w67 =>
              GuardP t101 true (fun (k39 : N1) => k39 ls_0 w67) w67 fun t102 w68 =>
              GuardP t101 true (fun (k40 : N1) => k40 k_9 w68) w68 fun t103 w69 =>
              GuardP t101 true (fun (k41 : N1) => Run Tryd.prog (Instr.indexAt 51 t102 t103) w69 k41) w69 fun t104 w70 =>
              GuardP t101 true (fun (k42 : N1) => Run Tryd.prog (Instr.loadAt 140 t104) w70 k42) w70 fun t105 w71 =>
              GuardP t101 true (fun (k43 : N1) => k43 i_10 w71) w71 fun t106 w72 =>
              GuardP t101 true (fun (k44 : N1) => Run Tryd.prog (Instr.indexAt 140 t105 t106) w72 k44) w72 fun t107 w73 =>
              GuardP t101 true (fun (k45 : N1) => Run Tryd.prog (Instr.loadAt 5 t107) w73 k45) w73 fun t108 w74 =>
              GuardP t101 true (fun (k46 : N1) => k46 t83 w74) w74 fun t109 w75 =>
              GuardP t101 true (fun (k47 : N1) => Run Tryd.prog (binSem Go.BinOp.neq 5 (Go.Operand.tmp 108) (Go.Operand.tmp 109) t108 t109) w75 k47) w75 fun t110 w76 =>
              GuardP t92 false (fun (k48 : N1) => PickP t101 t110 (Go.Value.bool false) w76 k48) w76 fun t111 w77 =>
              PickP t92 (Go.Value.bool true) t111 w77 fun t112 w78 =>
              CondP t112 1 (fun (k49 : N1) =>
                R (Go.Value.bool false) w78)
              (fun (k50 : N1) =>
                k50 t2 w78)
              (fun (t2 : Value) (w79 : World) => 
              k30 t2 w79))
            (fun (t2 : Value) (w80 : World) => 
            Run Tryd.prog (binSem Go.BinOp.add 3 (Go.Operand.tmp 79) (Go.Operand.const (Go.Value.int Go.IntKind.i64 1)) i_10 (Go.Value.int Go.IntKind.i64 1)) w80 fun t80 w81 =>
            k27 t2 t80 w81))))
          [t2, (Go.Value.int Go.IntKind.i64 0)] w47)
        (fun (t2 : Value) (i_10 : Value) (w82 : World) => 
        k25 t2 w82))
      (fun (t2 : Value) (w83 : World) => 
      Run Tryd.prog (binSem Go.BinOp.add 3 (Go.Operand.tmp 70) (Go.Operand.const (Go.Value.int Go.IntKind.i64 1)) k_9 (Go.Value.int Go.IntKind.i64 1)) w83 fun t71 w84 =>
      k22 t2 t71 w84))))
    [(Go.Value.bool false), (Go.Value.int Go.IntKind.i64 0)] w43)
  (fun (t2 : Value) (k_9 : Value) (w85 : World) => 
  R (Go.Value.bool true) w85)))
theorem S31_eq (ls_0 : Value) (w : World) (R : Value → World → Prop) : vcFn Tryd.prog Tryd.f31 [ls_0] w R = S31 ls_0 w R := by kernel_rfl
theorem D31 {ls_0 : Value} {w : World} {R : Value → World → Prop} (h : S31 ls_0 w R) : Does Tryd.prog 31 [ls_0] w R :=
  does_of_vc mixed Tryd.func31 (by kernel_rfl) (by kernel_rfl) ((S31_eq ls_0 w R).mpr h)

/-- busbar/busbarkit.ApartTexts -/
def S32 (ls_0 : Value) (w : World) (R : Value → World → Prop) : Prop :=
  JoinP 1 (fun (k1 : N1) =>
    LoopP 1 (fun (k2 : N1) => (fun (k_3 : Value) (w1 : World) => 
      Run Tryd.prog (Builtin.len_ #[52] 3 #[ls_0]) w1 fun t14 w2 =>
      Run Tryd.prog (binSem Go.BinOp.lss 3 (Go.Operand.tmp 12) (Go.Operand.tmp 14) k_3 t14) w2 fun t15 w3 =>
      CondP t15 0 (fun (k3 : N0) =>
        k3 w3)
      (fun (k4 : N0) =>
        k1 k_3 w3)
      (fun (w4 : World) => 
      JoinP 0 (fun (k5 : N0) =>
        JoinP 1 (fun (k6 : N1) =>
          LoopP 1 (fun (k7 : N1) => (fun (i_4 : Value) (w5 : World) => 
            Run Tryd.prog (Instr.indexAt 52 ls_0 k_3) w5 fun t21 w6 =>
            Run Tryd.prog (Instr.loadAt 26 t21) w6 fun t22 w7 =>
            Run Tryd.prog (Builtin.len_ #[26] 3 #[t22]) w7 fun t23 w8 =>
            Run Tryd.prog (binSem Go.BinOp.lss 3 (Go.Operand.tmp 18) (Go.Operand.tmp 23) i_4 t23) w8 fun t24 w9 =>
            CondP t24 0 (fun (k8 : N0) =>
              k8 w9)
            (fun (k9 : N0) =>
              k6 i_4 w9)
            (fun (w10 : World) => 
            JoinP 0 (fun (k10 : N0) =>
              ∀ w11, Ext w10 w11 →
              RunQ Tryd.prog (Instr.indexAt 52 ls_0 k_3) w11 fun t29 =>
              RunQ Tryd.prog (Instr.loadAt 26 t29) w11 fun t30 =>
              GoN Tryd.prog (callFunc 58 #[k_3, i_4]) w11 fun t34 w12 => Ext w11 w12 ∧
              RunQ Tryd.prog (Instr.indexAt 26 t30 i_4) w11 fun t35 =>
              RunU Tryd.prog (Instr.storeAt 9 t35 t34) w12 fun w13 =>
              k10 w13)
            (fun (w14 : World) => 
            Run Tryd.prog (binSem Go.BinOp.add 3 (Go.Operand.tmp 25) (Go.Operand.const (Go.Value.int Go.IntKind.i64 1)) i_4 (Go.Value.int Go.IntKind.i64 1)) w14 fun t26 w15 =>
            k7 t26 w15))))
          [(Go.Value.int Go.IntKind.i64 0)] w4)
        (fun (i_4 : Value) (w16 : World) => 
        k5 w16))
      (fun (w17 : World) => 
      Run Tryd.prog (binSem Go.BinOp.add 3 (Go.Operand.tmp 16) (Go.Operand.const (Go.Value.int Go.IntKind.i64 1)) k_3 (Go.Value.int Go.IntKind.i64 1)) w17 fun t17 w18 =>
      k2 t17 w18))))
    [(Go.Value.int Go.IntKind.i64 0)] w)
  (fun (k_3 : Value) (w19 : World) => 
  JoinP 2 (fun (k11 : N2) =>
    LoopP 2 (fun (k12 : N2) => (fun (gs_5 : Value) (k_6 : Value) (w20 : World) => 
      Run Tryd.prog (Builtin.len_ #[52] 3 #[ls_0]) w20 fun t38 w21 =>
      Run Tryd.prog (binSem Go.BinOp.lss 3 (Go.Operand.tmp 36) (Go.Operand.tmp 38) k_6 t38) w21 fun t39 w22 =>
      CondP t39 0 (fun (k13 : N0) =>
        k13 w22)
      (fun (k14 : N0) =>
        k11 gs_5 k_6 w22)
      (fun (w23 : World) => 
      JoinP 1 (fun (k15 : N1) =>
        Run Tryd.prog (Instr.indexAt 52 ls_0 k_6) w23 fun t44 w24 =>
        Run Tryd.prog (Instr.loadAt 26 t44) w24 fun t45 w25 =>
        JoinP 2 (fun (k16 : N2) =>
          LoopP 2 (fun (k17 : N2) => (fun (g_7 : Value) (i_8 : Value) (w26 : World) => 
            Run Tryd.prog (binSem Go.BinOp.lss 3 (Go.Operand.tmp 46) (Go.Operand.const (Go.Value.int Go.IntKind.i64 64)) i_8 (Go.Value.int Go.IntKind.i64 64)) w26 fun t47 w27 =>
            CondP t47 0 (fun (k18 : N0) =>
              k18 w27)
            (fun (k19 : N0) =>
              k16 g_7 i_8 w27)
            (fun (w28 : World) => 
            JoinP 1 (fun (k20 : N1) =>
              Run Tryd.prog (Instr.indexAt 52 ls_0 k_6) w28 fun t54 w29 =>
              Run Tryd.prog (Instr.loadAt 26 t54) w29 fun t55 w30 =>
              Run Tryd.prog (Builtin.len_ #[26] 3 #[t55]) w30 fun t56 w31 =>
              Run Tryd.prog (binSem Go.BinOp.add 3 (Go.Operand.tmp 56) (Go.Operand.tmp 57) t56 i_8) w31 fun t58 w32 =>
              GoN Tryd.prog (callFunc 58 #[k_6, t58]) w32 fun t59 w33 =>
              Run Tryd.prog (Instr.buildSlice 26 1 #[(0, t59)]) w33 fun t60 w34 =>
              Run Tryd.prog (Builtin.append_ #[26, 26] 26 #[g_7, t60]) w34 fun t61 w35 =>
              k20 t61 w35)
            (fun (g_7 : Value) (w36 : World) => 
            Run Tryd.prog (binSem Go.BinOp.add 3 (Go.Operand.tmp 48) (Go.Operand.const (Go.Value.int Go.IntKind.i64 1)) i_8 (Go.Value.int Go.IntKind.i64 1)) w36 fun t49 w37 =>
            k17 g_7 t49 w37))))
          [t45, (Go.Value.int Go.IntKind.i64 0)] w25)
        (fun (g_7 : Value) (i_8 : Value) (w38 : World) => 
        Run Tryd.prog (Instr.buildSlice 52 1 #[(0, g_7)]) w38 fun t64 w39 =>
        Run Tryd.prog (Builtin.append_ #[52, 52] 52 #[gs_5, t64]) w39 fun t65 w40 =>
        k15 t65 w40))
      (fun (gs_5 : Value) (w41 : World) => 
      Run Tryd.prog (binSem Go.BinOp.add 3 (Go.Operand.tmp 40) (Go.Operand.const (Go.Value.int Go.IntKind.i64 1)) k_6 (Go.Value.int Go.IntKind.i64 1)) w41 fun t41 w42 =>
      k12 gs_5 t41 w42))))
    [(Go.Value.slice none 0 0), (Go.Value.int Go.IntKind.i64 0)] w19)
  (fun (gs_5 : Value) (k_6 : Value) (w43 : World) => 
  JoinP 2 (fun (k21 : N2) =>
    LoopP 2 (fun (k22 : N2) => (fun (t2 : Value) (k_9 : Value) (w44 : World) => 
      Run Tryd.prog (Builtin.len_ #[52] 3 #[ls_0]) w44 fun t68 w45 =>
      Run Tryd.prog (binSem Go.BinOp.lss 3 (Go.Operand.tmp 66) (Go.Operand.tmp 68) k_9 t68) w45 fun t69 w46 =>
      CondP t69 0 (fun (k23 : N0) =>
        k23 w46)
      (fun (k24 : N0) =>
        k21 t2 k_9 w46)
      (fun (w47 : World) => 
      JoinP 1 (fun (k25 : N1) =>
        JoinP 2 (fun (k26 : N2) =>
          LoopP 2 (fun (k27 : N2) => (fun (t2 : Value) (i_10 : Value) (w48 : World) => 
            Run Tryd.prog (Instr.indexAt 52 gs_5 k_9) w48 fun t75 w49 =>
            Run Tryd.prog (Instr.loadAt 26 t75) w49 fun t76 w50 =>
            Run Tryd.prog (Builtin.len_ #[26] 3 #[t76]) w50 fun t77 w51 =>
            Run Tryd.prog (binSem Go.BinOp.lss 3 (Go.Operand.tmp 72) (Go.Operand.tmp 77) i_10 t77) w51 fun t78 w52 =>
            CondP t78 0 (fun (k28 : N0) =>
              k28 w52)
            (fun (k29 : N0) =>
              k26 t2 i_10 w52)
            (fun (w53 : World) => 
            JoinP 1 (fun (k30 : N1) =>
              GoN Tryd.prog (callFunc 58 #[k_9, i_10]) w53 fun t83 w54 =>
              Run Tryd.prog (Instr.indexAt 52 gs_5 k_9) w54 fun t86 w55 =>
              Run Tryd.prog (Instr.loadAt 26 t86) w55 fun t87 w56 =>
              Run Tryd.prog (Instr.indexAt 26 t87 i_10) w56 fun t89 w57 =>
              Run Tryd.prog (Instr.loadAt 9 t89) w57 fun t90 w58 =>
              Run Tryd.prog (binSem Go.BinOp.neq 9 (Go.Operand.tmp 90) (Go.Operand.tmp 91) t90 t83) w58 fun t92 w59 =>
              GuardP t92 false (fun (k31 : N1) => k31 i_10 w59) w59 fun t94 w60 =>
              GuardP t92 false (fun (k32 : N1) => k32 ls_0 w60) w60 fun t95 w61 =>
              GuardP t92 false (fun (k33 : N1) => k33 k_9 w61) w61 fun t96 w62 =>
              GuardP t92 false (fun (k34 : N1) => Run Tryd.prog (Instr.indexAt 52 t95 t96) w62 k34) w62 fun t97 w63 =>
              GuardP t92 false (fun (k35 : N1) => Run Tryd.prog (Instr.loadAt 26 t97) w63 k35) w63 fun t98 w64 =>
              GuardP t92 false (fun (k36 : N1) => Run Tryd.prog (Builtin.len_ #[26] 3 #[t98]) w64 k36) w64 fun t99 w65 =>
              GuardP t92 false (fun (k37 : N1) => Run Tryd.prog (binSem Go.BinOp.lss 3 (Go.Operand.tmp 94) (Go.Operand.tmp 99) t94 t99) w65 k37) w65 fun t100 w66 =>
              GuardP t92 false (fun (k38 : N1) => k38 t100 w66) w66 fun t101 w67 =>
              GuardP t101 true (fun (k39 : N1) => k39 ls_0 w67) w67 fun t102 w68 =>
              GuardP t101 true (fun (k40 : N1) => k40 k_9 w68) w68 fun t103 w69 =>
              GuardP t101 true (fun (k41 : N1) => Run Tryd.prog (Instr.indexAt 52 t102 t103) w69 k41) w69 fun t104 w70 =>
              GuardP t101 true (fun (k42 : N1) => Run Tryd.prog (Instr.loadAt 26 t104) w70 k42) w70 fun t105 w71 =>
              GuardP t101 true (fun (k43 : N1) => k43 i_10 w71) w71 fun t106 w72 =>
              GuardP t101 true (fun (k44 : N1) => Run Tryd.prog (Instr.indexAt 26 t105 t106) w72 k44) w72 fun t107 w73 =>
              GuardP t101 true (fun (k45 : N1) => Run Tryd.prog (Instr.loadAt 9 t107) w73 k45) w73 fun t108 w74 =>
              GuardP t101 true (fun (k46 : N1) => k46 t83 w74) w74 fun t109 w75 =>
              GuardP t101 true (fun (k47 : N1) => Run Tryd.prog (binSem Go.BinOp.neq 9 (Go.Operand.tmp 108) (Go.Operand.tmp 109) t108 t109) w75 k47) w75 fun t110 w76 =>
              GuardP t92 false (fun (k48 : N1) => PickP t101 t110 (Go.Value.bool false) w76 k48) w76 fun t111 w77 =>
              PickP t92 (Go.Value.bool true) t111 w77 fun t112 w78 =>
              CondP t112 1 (fun (k49 : N1) =>
                R (Go.Value.bool false) w78)
              (fun (k50 : N1) =>
                k50 t2 w78)
              (fun (t2 : Value) (w79 : World) => 
              k30 t2 w79))
            (fun (t2 : Value) (w80 : World) => 
            Run Tryd.prog (binSem Go.BinOp.add 3 (Go.Operand.tmp 79) (Go.Operand.const (Go.Value.int Go.IntKind.i64 1)) i_10 (Go.Value.int Go.IntKind.i64 1)) w80 fun t80 w81 =>
            k27 t2 t80 w81))))
          [t2, (Go.Value.int Go.IntKind.i64 0)] w47)
        (fun (t2 : Value) (i_10 : Value) (w82 : World) => 
        k25 t2 w82))
      (fun (t2 : Value) (w83 : World) => 
      Run Tryd.prog (binSem Go.BinOp.add 3 (Go.Operand.tmp 70) (Go.Operand.const (Go.Value.int Go.IntKind.i64 1)) k_9 (Go.Value.int Go.IntKind.i64 1)) w83 fun t71 w84 =>
      k22 t2 t71 w84))))
    [(Go.Value.bool false), (Go.Value.int Go.IntKind.i64 0)] w43)
  (fun (t2 : Value) (k_9 : Value) (w85 : World) => 
  R (Go.Value.bool true) w85)))
theorem S32_eq (ls_0 : Value) (w : World) (R : Value → World → Prop) : vcFn Tryd.prog Tryd.f32 [ls_0] w R = S32 ls_0 w R := by kernel_rfl
theorem D32 {ls_0 : Value} {w : World} {R : Value → World → Prop} (h : S32 ls_0 w R) : Does Tryd.prog 32 [ls_0] w R :=
  does_of_vc mixed Tryd.func32 (by kernel_rfl) (by kernel_rfl) ((S32_eq ls_0 w R).mpr h)

/-- busbar/busbarkit.ApartInts -/
def S33 (ls_0 : Value) (w : World) (R : Value → World → Prop) : Prop :=
  JoinP 1 (fun (k1 : N1) =>
    LoopP 1 (fun (k2 : N1) => (fun (k_3 : Value) (w1 : World) => 
      Run Tryd.prog (Builtin.len_ #[53] 3 #[ls_0]) w1 fun t14 w2 =>
      Run Tryd.prog (binSem Go.BinOp.lss 3 (Go.Operand.tmp 12) (Go.Operand.tmp 14) k_3 t14) w2 fun t15 w3 =>
      CondP t15 0 (fun (k3 : N0) =>
        k3 w3)
      (fun (k4 : N0) =>
        k1 k_3 w3)
      (fun (w4 : World) => 
      JoinP 0 (fun (k5 : N0) =>
        JoinP 1 (fun (k6 : N1) =>
          LoopP 1 (fun (k7 : N1) => (fun (i_4 : Value) (w5 : World) => 
            Run Tryd.prog (Instr.indexAt 53 ls_0 k_3) w5 fun t21 w6 =>
            Run Tryd.prog (Instr.loadAt 33 t21) w6 fun t22 w7 =>
            Run Tryd.prog (Builtin.len_ #[33] 3 #[t22]) w7 fun t23 w8 =>
            Run Tryd.prog (binSem Go.BinOp.lss 3 (Go.Operand.tmp 18) (Go.Operand.tmp 23) i_4 t23) w8 fun t24 w9 =>
            CondP t24 0 (fun (k8 : N0) =>
              k8 w9)
            (fun (k9 : N0) =>
              k6 i_4 w9)
            (fun (w10 : World) => 
            JoinP 0 (fun (k10 : N0) =>
              ∀ w11, Ext w10 w11 →
              RunQ Tryd.prog (Instr.indexAt 53 ls_0 k_3) w11 fun t29 =>
              RunQ Tryd.prog (Instr.loadAt 33 t29) w11 fun t30 =>
              GoN Tryd.prog (callFunc 59 #[k_3, i_4]) w11 fun t34 w12 => Ext w11 w12 ∧
              RunQ Tryd.prog (Instr.indexAt 33 t30 i_4) w11 fun t35 =>
              RunU Tryd.prog (Instr.storeAt 3 t35 t34) w12 fun w13 =>
              k10 w13)
            (fun (w14 : World) => 
            Run Tryd.prog (binSem Go.BinOp.add 3 (Go.Operand.tmp 25) (Go.Operand.const (Go.Value.int Go.IntKind.i64 1)) i_4 (Go.Value.int Go.IntKind.i64 1)) w14 fun t26 w15 =>
            k7 t26 w15))))
          [(Go.Value.int Go.IntKind.i64 0)] w4)
        (fun (i_4 : Value) (w16 : World) => 
        k5 w16))
      (fun (w17 : World) => 
      Run Tryd.prog (binSem Go.BinOp.add 3 (Go.Operand.tmp 16) (Go.Operand.const (Go.Value.int Go.IntKind.i64 1)) k_3 (Go.Value.int Go.IntKind.i64 1)) w17 fun t17 w18 =>
      k2 t17 w18))))
    [(Go.Value.int Go.IntKind.i64 0)] w)
  (fun (k_3 : Value) (w19 : World) => 
  JoinP 2 (fun (k11 : N2) =>
    LoopP 2 (fun (k12 : N2) => (fun (gs_5 : Value) (k_6 : Value) (w20 : World) => 
      Run Tryd.prog (Builtin.len_ #[53] 3 #[ls_0]) w20 fun t38 w21 =>
      Run Tryd.prog (binSem Go.BinOp.lss 3 (Go.Operand.tmp 36) (Go.Operand.tmp 38) k_6 t38) w21 fun t39 w22 =>
      CondP t39 0 (fun (k13 : N0) =>
        k13 w22)
      (fun (k14 : N0) =>
        k11 gs_5 k_6 w22)
      (fun (w23 : World) => 
      JoinP 1 (fun (k15 : N1) =>
        Run Tryd.prog (Instr.indexAt 53 ls_0 k_6) w23 fun t44 w24 =>
        Run Tryd.prog (Instr.loadAt 33 t44) w24 fun t45 w25 =>
        JoinP 2 (fun (k16 : N2) =>
          LoopP 2 (fun (k17 : N2) => (fun (g_7 : Value) (i_8 : Value) (w26 : World) => 
            Run Tryd.prog (binSem Go.BinOp.lss 3 (Go.Operand.tmp 46) (Go.Operand.const (Go.Value.int Go.IntKind.i64 64)) i_8 (Go.Value.int Go.IntKind.i64 64)) w26 fun t47 w27 =>
            CondP t47 0 (fun (k18 : N0) =>
              k18 w27)
            (fun (k19 : N0) =>
              k16 g_7 i_8 w27)
            (fun (w28 : World) => 
            JoinP 1 (fun (k20 : N1) =>
              Run Tryd.prog (Instr.indexAt 53 ls_0 k_6) w28 fun t54 w29 =>
              Run Tryd.prog (Instr.loadAt 33 t54) w29 fun t55 w30 =>
              Run Tryd.prog (Builtin.len_ #[33] 3 #[t55]) w30 fun t56 w31 =>
              Run Tryd.prog (binSem Go.BinOp.add 3 (Go.Operand.tmp 56) (Go.Operand.tmp 57) t56 i_8) w31 fun t58 w32 =>
              GoN Tryd.prog (callFunc 59 #[k_6, t58]) w32 fun t59 w33 =>
              Run Tryd.prog (Instr.buildSlice 33 1 #[(0, t59)]) w33 fun t60 w34 =>
              Run Tryd.prog (Builtin.append_ #[33, 33] 33 #[g_7, t60]) w34 fun t61 w35 =>
              k20 t61 w35)
            (fun (g_7 : Value) (w36 : World) => 
            Run Tryd.prog (binSem Go.BinOp.add 3 (Go.Operand.tmp 48) (Go.Operand.const (Go.Value.int Go.IntKind.i64 1)) i_8 (Go.Value.int Go.IntKind.i64 1)) w36 fun t49 w37 =>
            k17 g_7 t49 w37))))
          [t45, (Go.Value.int Go.IntKind.i64 0)] w25)
        (fun (g_7 : Value) (i_8 : Value) (w38 : World) => 
        Run Tryd.prog (Instr.buildSlice 53 1 #[(0, g_7)]) w38 fun t64 w39 =>
        Run Tryd.prog (Builtin.append_ #[53, 53] 53 #[gs_5, t64]) w39 fun t65 w40 =>
        k15 t65 w40))
      (fun (gs_5 : Value) (w41 : World) => 
      Run Tryd.prog (binSem Go.BinOp.add 3 (Go.Operand.tmp 40) (Go.Operand.const (Go.Value.int Go.IntKind.i64 1)) k_6 (Go.Value.int Go.IntKind.i64 1)) w41 fun t41 w42 =>
      k12 gs_5 t41 w42))))
    [(Go.Value.slice none 0 0), (Go.Value.int Go.IntKind.i64 0)] w19)
  (fun (gs_5 : Value) (k_6 : Value) (w43 : World) => 
  JoinP 2 (fun (k21 : N2) =>
    LoopP 2 (fun (k22 : N2) => (fun (t2 : Value) (k_9 : Value) (w44 : World) => 
      Run Tryd.prog (Builtin.len_ #[53] 3 #[ls_0]) w44 fun t68 w45 =>
      Run Tryd.prog (binSem Go.BinOp.lss 3 (Go.Operand.tmp 66) (Go.Operand.tmp 68) k_9 t68) w45 fun t69 w46 =>
      CondP t69 0 (fun (k23 : N0) =>
        k23 w46)
      (fun (k24 : N0) =>
        k21 t2 k_9 w46)
      (fun (w47 : World) => 
      JoinP 1 (fun (k25 : N1) =>
        JoinP 2 (fun (k26 : N2) =>
          LoopP 2 (fun (k27 : N2) => (fun (t2 : Value) (i_10 : Value) (w48 : World) => 
            Run Tryd.prog (Instr.indexAt 53 gs_5 k_9) w48 fun t75 w49 =>
            Run Tryd.prog (Instr.loadAt 33 t75) w49 fun t76 w50 =>
            Run Tryd.prog (Builtin.len_ #[33] 3 #[t76]) w50 fun t77 w51 =>
            Run Tryd.prog (binSem Go.BinOp.lss 3 (Go.Operand.tmp 72) (Go.Operand.tmp 77) i_10 t77) w51 fun t78 w52 =>
            CondP t78 0 (fun (k28 : N0) =>
              k28 w52)
            (fun (k29 : N0) =>
              k26 t2 i_10 w52)
            (fun (w53 : World) => 
            JoinP 1 (fun (k30 : N1) =>
              GoN Tryd.prog (callFunc 59 #[k_9, i_10]) w53 fun t83 w54 =>
              Run Tryd.prog (Instr.indexAt 53 gs_5 k_9) w54 fun t86 w55 =>
              Run Tryd.prog (Instr.loadAt 33 t86) w55 fun t87 w56 =>
              Run Tryd.prog (Instr.indexAt 33 t87 i_10) w56 fun t89 w57 =>
              Run Tryd.prog (Instr.loadAt 3 t89) w57 fun t90 w58 =>
              Run Tryd.prog (binSem Go.BinOp.neq 3 (Go.Operand.tmp 90) (Go.Operand.tmp 91) t90 t83) w58 fun t92 w59 =>
              GuardP t92 false (fun (k31 : N1) => k31 i_10 w59) w59 fun t94 w60 =>
              GuardP t92 false (fun (k32 : N1) => k32 ls_0 w60) w60 fun t95 w61 =>
              GuardP t92 false (fun (k33 : N1) => k33 k_9 w61) w61 fun t96 w62 =>
              GuardP t92 false (fun (k34 : N1) => Run Tryd.prog (Instr.indexAt 53 t95 t96) w62 k34) w62 fun t97 w63 =>
              GuardP t92 false (fun (k35 : N1) => Run Tryd.prog (Instr.loadAt 33 t97) w63 k35) w63 fun t98 w64 =>
              GuardP t92 false (fun (k36 : N1) => Run Tryd.prog (Builtin.len_ #[33] 3 #[t98]) w64 k36) w64 fun t99 w65 =>
              GuardP t92 false (fun (k37 : N1) => Run Tryd.prog (binSem Go.BinOp.lss 3 (Go.Operand.tmp 94) (Go.Operand.tmp 99) t94 t99) w65 k37) w65 fun t100 w66 =>
              GuardP t92 false (fun (k38 : N1) => k38 t100 w66) w66 fun t101 w67 =>
              GuardP t101 true (fun (k39 : N1) => k39 ls_0 w67) w67 fun t102 w68 =>
              GuardP t101 true (fun (k40 : N1) => k40 k_9 w68) w68 fun t103 w69 =>
              GuardP t101 true (fun (k41 : N1) => Run Tryd.prog (Instr.indexAt 53 t102 t103) w69 k41) w69 fun t104 w70 =>
              GuardP t101 true (fun (k42 : N1) => Run Tryd.prog (Instr.loadAt 33 t104) w70 k42) w70 fun t105 w71 =>
              GuardP t101 true (fun (k43 : N1) => k43 i_10 w71) w71 fun t106 w72 =>
              GuardP t101 true (fun (k44 : N1) => Run Tryd.prog (Instr.indexAt 33 t105 t106) w72 k44) w72 fun t107 w73 =>
              GuardP t101 true (fun (k45 : N1) => Run Tryd.prog (Instr.loadAt 3 t107) w73 k45) w73 fun t108 w74 =>
              GuardP t101 true (fun (k46 : N1) => k46 t83 w74) w74 fun t109 w75 =>
              GuardP t101 true (fun (k47 : N1) => Run Tryd.prog (binSem Go.BinOp.neq 3 (Go.Operand.tmp 108) (Go.Operand.tmp 109) t108 t109) w75 k47) w75 fun t110 w76 =>
              GuardP t92 false (fun (k48 : N1) => PickP t101 t110 (Go.Value.bool false) w76 k48) w76 fun t111 w77 =>
              PickP t92 (Go.Value.bool true) t111 w77 fun t112 w78 =>
              CondP t112 1 (fun (k49 : N1) =>
                R (Go.Value.bool false) w78)
              (fun (k50 : N1) =>
                k50 t2 w78)
              (fun (t2 : Value) (w79 : World) => 
              k30 t2 w79))
            (fun (t2 : Value) (w80 : World) => 
            Run Tryd.prog (binSem Go.BinOp.add 3 (Go.Operand.tmp 79) (Go.Operand.const (Go.Value.int Go.IntKind.i64 1)) i_10 (Go.Value.int Go.IntKind.i64 1)) w80 fun t80 w81 =>
            k27 t2 t80 w81))))
          [t2, (Go.Value.int Go.IntKind.i64 0)] w47)
        (fun (t2 : Value) (i_10 : Value) (w82 : World) => 
        k25 t2 w82))
      (fun (t2 : Value) (w83 : World) => 
      Run Tryd.prog (binSem Go.BinOp.add 3 (Go.Operand.tmp 70) (Go.Operand.const (Go.Value.int Go.IntKind.i64 1)) k_9 (Go.Value.int Go.IntKind.i64 1)) w83 fun t71 w84 =>
      k22 t2 t71 w84))))
    [(Go.Value.bool false), (Go.Value.int Go.IntKind.i64 0)] w43)
  (fun (t2 : Value) (k_9 : Value) (w85 : World) => 
  R (Go.Value.bool true) w85)))
theorem S33_eq (ls_0 : Value) (w : World) (R : Value → World → Prop) : vcFn Tryd.prog Tryd.f33 [ls_0] w R = S33 ls_0 w R := by kernel_rfl
theorem D33 {ls_0 : Value} {w : World} {R : Value → World → Prop} (h : S33 ls_0 w R) : Does Tryd.prog 33 [ls_0] w R :=
  does_of_vc mixed Tryd.func33 (by kernel_rfl) (by kernel_rfl) ((S33_eq ls_0 w R).mpr h)

/-- busbar/busbarkit.ApartNumbers -/
def S34 (ls_0 : Value) (w : World) (R : Value → World → Prop) : Prop :=
  JoinP 1 (fun (k1 : N1) =>
    LoopP 1 (fun (k2 : N1) => (fun (k_3 : Value) (w1 : World) => 
      Run Tryd.prog (Builtin.len_ #[54] 3 #[ls_0]) w1 fun t14 w2 =>
      Run Tryd.prog (binSem Go.BinOp.lss 3 (Go.Operand.tmp 12) (Go.Operand.tmp 14) k_3 t14) w2 fun t15 w3 =>
      CondP t15 0 (fun (k3 : N0) =>
        k3 w3)
      (fun (k4 : N0) =>
        k1 k_3 w3)
      (fun (w4 : World) => 
      JoinP 0 (fun (k5 : N0) =>
        JoinP 1 (fun (k6 : N1) =>
          LoopP 1 (fun (k7 : N1) => (fun (i_4 : Value) (w5 : World) => 
            Run Tryd.prog (Instr.indexAt 54 ls_0 k_3) w5 fun t21 w6 =>
            Run Tryd.prog (Instr.loadAt 143 t21) w6 fun t22 w7 =>
            Run Tryd.prog (Builtin.len_ #[143] 3 #[t22]) w7 fun t23 w8 =>
            Run Tryd.prog (binSem Go.BinOp.lss 3 (Go.Operand.tmp 18) (Go.Operand.tmp 23) i_4 t23) w8 fun t24 w9 =>
            CondP t24 0 (fun (k8 : N0) =>
              k8 w9)
            (fun (k9 : N0) =>
              k6 i_4 w9)
            (fun (w10 : World) => 
            JoinP 0 (fun (k10 : N0) =>
              ∀ w11, Ext w10 w11 →
              RunQ Tryd.prog (Instr.indexAt 54 ls_0 k_3) w11 fun t29 =>
              RunQ Tryd.prog (Instr.loadAt 143 t29) w11 fun t30 =>
              GoN Tryd.prog (callFunc 60 #[k_3, i_4]) w11 fun t34 w12 => Ext w11 w12 ∧
              RunQ Tryd.prog (Instr.indexAt 143 t30 i_4) w11 fun t35 =>
              RunU Tryd.prog (Instr.storeAt 126 t35 t34) w12 fun w13 =>
              k10 w13)
            (fun (w14 : World) => 
            Run Tryd.prog (binSem Go.BinOp.add 3 (Go.Operand.tmp 25) (Go.Operand.const (Go.Value.int Go.IntKind.i64 1)) i_4 (Go.Value.int Go.IntKind.i64 1)) w14 fun t26 w15 =>
            k7 t26 w15))))
          [(Go.Value.int Go.IntKind.i64 0)] w4)
        (fun (i_4 : Value) (w16 : World) => 
        k5 w16))
      (fun (w17 : World) => 
      Run Tryd.prog (binSem Go.BinOp.add 3 (Go.Operand.tmp 16) (Go.Operand.const (Go.Value.int Go.IntKind.i64 1)) k_3 (Go.Value.int Go.IntKind.i64 1)) w17 fun t17 w18 =>
      k2 t17 w18))))
    [(Go.Value.int Go.IntKind.i64 0)] w)
  (fun (k_3 : Value) (w19 : World) => 
  JoinP 2 (fun (k11 : N2) =>
    LoopP 2 (fun (k12 : N2) => (fun (gs_5 : Value) (k_6 : Value) (w20 : World) => 
      Run Tryd.prog (Builtin.len_ #[54] 3 #[ls_0]) w20 fun t38 w21 =>
      Run Tryd.prog (binSem Go.BinOp.lss 3 (Go.Operand.tmp 36) (Go.Operand.tmp 38) k_6 t38) w21 fun t39 w22 =>
      CondP t39 0 (fun (k13 : N0) =>
        k13 w22)
      (fun (k14 : N0) =>
        k11 gs_5 k_6 w22)
      (fun (w23 : World) => 
      JoinP 1 (fun (k15 : N1) =>
        Run Tryd.prog (Instr.indexAt 54 ls_0 k_6) w23 fun t44 w24 =>
        Run Tryd.prog (Instr.loadAt 143 t44) w24 fun t45 w25 =>
        JoinP 2 (fun (k16 : N2) =>
          LoopP 2 (fun (k17 : N2) => (fun (g_7 : Value) (i_8 : Value) (w26 : World) => 
            Run Tryd.prog (binSem Go.BinOp.lss 3 (Go.Operand.tmp 46) (Go.Operand.const (Go.Value.int Go.IntKind.i64 64)) i_8 (Go.Value.int Go.IntKind.i64 64)) w26 fun t47 w27 =>
            CondP t47 0 (fun (k18 : N0) =>
              k18 w27)
            (fun (k19 : N0) =>
              k16 g_7 i_8 w27)
            (fun (w28 : World) => 
            JoinP 1 (fun (k20 : N1) =>
              Run Tryd.prog (Instr.indexAt 54 ls_0 k_6) w28 fun t54 w29 =>
              Run Tryd.prog (Instr.loadAt 143 t54) w29 fun t55 w30 =>
              Run Tryd.prog (Builtin.len_ #[143] 3 #[t55]) w30 fun t56 w31 =>
              Run Tryd.prog (binSem Go.BinOp.add 3 (Go.Operand.tmp 56) (Go.Operand.tmp 57) t56 i_8) w31 fun t58 w32 =>
              GoN Tryd.prog (callFunc 60 #[k_6, t58]) w32 fun t59 w33 =>
              Run Tryd.prog (Instr.buildSlice 143 1 #[(0, t59)]) w33 fun t60 w34 =>
              Run Tryd.prog (Builtin.append_ #[143, 143] 143 #[g_7, t60]) w34 fun t61 w35 =>
              k20 t61 w35)
            (fun (g_7 : Value) (w36 : World) => 
            Run Tryd.prog (binSem Go.BinOp.add 3 (Go.Operand.tmp 48) (Go.Operand.const (Go.Value.int Go.IntKind.i64 1)) i_8 (Go.Value.int Go.IntKind.i64 1)) w36 fun t49 w37 =>
            k17 g_7 t49 w37))))
          [t45, (Go.Value.int Go.IntKind.i64 0)] w25)
        (fun (g_7 : Value) (i_8 : Value) (w38 : World) => 
        Run Tryd.prog (Instr.buildSlice 54 1 #[(0, g_7)]) w38 fun t64 w39 =>
        Run Tryd.prog (Builtin.append_ #[54, 54] 54 #[gs_5, t64]) w39 fun t65 w40 =>
        k15 t65 w40))
      (fun (gs_5 : Value) (w41 : World) => 
      Run Tryd.prog (binSem Go.BinOp.add 3 (Go.Operand.tmp 40) (Go.Operand.const (Go.Value.int Go.IntKind.i64 1)) k_6 (Go.Value.int Go.IntKind.i64 1)) w41 fun t41 w42 =>
      k12 gs_5 t41 w42))))
    [(Go.Value.slice none 0 0), (Go.Value.int Go.IntKind.i64 0)] w19)
  (fun (gs_5 : Value) (k_6 : Value) (w43 : World) => 
  JoinP 2 (fun (k21 : N2) =>
    LoopP 2 (fun (k22 : N2) => (fun (t2 : Value) (k_9 : Value) (w44 : World) => 
      Run Tryd.prog (Builtin.len_ #[54] 3 #[ls_0]) w44 fun t68 w45 =>
      Run Tryd.prog (binSem Go.BinOp.lss 3 (Go.Operand.tmp 66) (Go.Operand.tmp 68) k_9 t68) w45 fun t69 w46 =>
      CondP t69 0 (fun (k23 : N0) =>
        k23 w46)
      (fun (k24 : N0) =>
        k21 t2 k_9 w46)
      (fun (w47 : World) => 
      JoinP 1 (fun (k25 : N1) =>
        JoinP 2 (fun (k26 : N2) =>
          LoopP 2 (fun (k27 : N2) => (fun (t2 : Value) (i_10 : Value) (w48 : World) => 
            Run Tryd.prog (Instr.indexAt 54 gs_5 k_9) w48 fun t75 w49 =>
            Run Tryd.prog (Instr.loadAt 143 t75) w49 fun t76 w50 =>
            Run Tryd.prog (Builtin.len_ #[143] 3 #[t76]) w50 fun t77 w51 =>
            Run Tryd.prog (binSem Go.BinOp.lss 3 (Go.Operand.tmp 72) (Go.Operand.tmp 77) i_10 t77) w51 fun t78 w52 =>
            CondP t78 0 (fun (k28 : N0) =>
              k28 w52)
            (fun (k29 : N0) =>
              k26 t2 i_10 w52)
            (fun (w53 : World) => 
            JoinP 1 (fun (k30 : N1) =>
              GoN Tryd.prog (callFunc 60 #[k_9, i_10]) w53 fun t83 w54 =>
              Run Tryd.prog (Instr.indexAt 54 gs_5 k_9) w54 fun t86 w55 =>
              Run Tryd.prog (Instr.loadAt 143 t86) w55 fun t87 w56 =>
              Run Tryd.prog (Instr.indexAt 143 t87 i_10) w56 fun t89 w57 =>
              Run Tryd.prog (Instr.loadAt 126 t89) w57 fun t90 w58 =>
              Run Tryd.prog (binSem Go.BinOp.neq 126 (Go.Operand.tmp 90) (Go.Operand.tmp 91) t90 t83) w58 fun t92 w59 =>
              GuardP t92 false (fun (k31 : N1) => k31 i_10 w59) w59 fun t94 w60 =>
              GuardP t92 false (fun (k32 : N1) => k32 ls_0 w60) w60 fun t95 w61 =>
              GuardP t92 false (fun (k33 : N1) => k33 k_9 w61) w61 fun t96 w62 =>
              GuardP t92 false (fun (k34 : N1) => Run Tryd.prog (Instr.indexAt 54 t95 t96) w62 k34) w62 fun t97 w63 =>
              GuardP t92 false (fun (k35 : N1) => Run Tryd.prog (Instr.loadAt 143 t97) w63 k35) w63 fun t98 w64 =>
              GuardP t92 false (fun (k36 : N1) => Run Tryd.prog (Builtin.len_ #[143] 3 #[t98]) w64 k36) w64 fun t99 w65 =>
              GuardP t92 false (fun (k37 : N1) => Run Tryd.prog (binSem Go.BinOp.lss 3 (Go.Operand.tmp 94) (Go.Operand.tmp 99) t94 t99) w65 k37) w65 fun t100 w66 =>
              GuardP t92 false (fun (k38 : N1) => k38 t100 w66) w66 fun t101 w67 =>
              GuardP t101 true (fun (k39 : N1) => k39 ls_0 w67) w67 fun t102 w68 =>
              GuardP t101 true (fun (k40 : N1) => k40 k_9 w68) w68 fun t103 w69 =>
              GuardP t101 true (fun (k41 : N1) => Run Tryd.prog (Instr.indexAt 54 t102 t103) w69 k41) w69 fun t104 w70 =>
              GuardP t101 true (fun (k42 : N1) => Run Tryd.prog (Instr.loadAt 143 t104) w70 k42) w70 fun t105 w71 =>
              GuardP t101 true (fun (k43 : N1) => k43 i_10 w71) w71 fun t106 w72 =>
              GuardP t101 true (fun (k44 : N1) => Run Tryd.prog (Instr.indexAt 143 t105 t106) w72 k44) w72 fun t107 w73 =>
              GuardP t101 true (fun (k45 : N1) => Run Tryd.prog (Instr.loadAt 126 t107) w73 k45) w73 fun t108 w74 =>
              GuardP t101 true (fun (k46 : N1) => k46 t83 w74) w74 fun t109 w75 =>
              GuardP t101 true (fun (k47 : N1) => Run Tryd.prog (binSem Go.BinOp.neq 126 (Go.Operand.tmp 108) (Go.Operand.tmp 109) t108 t109) w75 k47) w75 fun t110 w76 =>
              GuardP t92 false (fun (k48 : N1) => PickP t101 t110 (Go.Value.bool false) w76 k48) w76 fun t111 w77 =>
              PickP t92 (Go.Value.bool true) t111 w77 fun t112 w78 =>
              CondP t112 1 (fun (k49 : N1) =>
                R (Go.Value.bool false) w78)
              (fun (k50 : N1) =>
                k50 t2 w78)
              (fun (t2 : Value) (w79 : World) => 
              k30 t2 w79))
            (fun (t2 : Value) (w80 : World) => 
            Run Tryd.prog (binSem Go.BinOp.add 3 (Go.Operand.tmp 79) (Go.Operand.const (Go.Value.int Go.IntKind.i64 1)) i_10 (Go.Value.int Go.IntKind.i64 1)) w80 fun t80 w81 =>
            k27 t2 t80 w81))))
          [t2, (Go.Value.int Go.IntKind.i64 0)] w47)
        (fun (t2 : Value) (i_10 : Value) (w82 : World) => 
        k25 t2 w82))
      (fun (t2 : Value) (w83 : World) => 
      Run Tryd.prog (binSem Go.BinOp.add 3 (Go.Operand.tmp 70) (Go.Operand.const (Go.Value.int Go.IntKind.i64 1)) k_9 (Go.Value.int Go.IntKind.i64 1)) w83 fun t71 w84 =>
      k22 t2 t71 w84))))
    [(Go.Value.bool false), (Go.Value.int Go.IntKind.i64 0)] w43)
  (fun (t2 : Value) (k_9 : Value) (w85 : World) => 
  R (Go.Value.bool true) w85)))
theorem S34_eq (ls_0 : Value) (w : World) (R : Value → World → Prop) : vcFn Tryd.prog Tryd.f34 [ls_0] w R = S34 ls_0 w R := by kernel_rfl
theorem D34 {ls_0 : Value} {w : World} {R : Value → World → Prop} (h : S34 ls_0 w R) : Does Tryd.prog 34 [ls_0] w R :=
  does_of_vc mixed Tryd.func34 (by kernel_rfl) (by kernel_rfl) ((S34_eq ls_0 w R).mpr h)

/-- busbar/busbarkit.ApartTokens -/
def S35 (ls_0 : Value) (w : World) (R : Value → World → Prop) : Prop :=
  JoinP 1 (fun (k1 : N1) =>
    LoopP 1 (fun (k2 : N1) => (fun (k_3 : Value) (w1 : World) => 
      Run Tryd.prog (Builtin.len_ #[55] 3 #[ls_0]) w1 fun t14 w2 =>
      Run Tryd.prog (binSem Go.BinOp.lss 3 (Go.Operand.tmp 12) (Go.Operand.tmp 14) k_3 t14) w2 fun t15 w3 =>
      CondP t15 0 (fun (k3 : N0) =>
        k3 w3)
      (fun (k4 : N0) =>
        k1 k_3 w3)
      (fun (w4 : World) => 
      JoinP 0 (fun (k5 : N0) =>
        JoinP 1 (fun (k6 : N1) =>
          LoopP 1 (fun (k7 : N1) => (fun (i_4 : Value) (w5 : World) => 
            Run Tryd.prog (Instr.indexAt 55 ls_0 k_3) w5 fun t21 w6 =>
            Run Tryd.prog (Instr.loadAt 145 t21) w6 fun t22 w7 =>
            Run Tryd.prog (Builtin.len_ #[145] 3 #[t22]) w7 fun t23 w8 =>
            Run Tryd.prog (binSem Go.BinOp.lss 3 (Go.Operand.tmp 18) (Go.Operand.tmp 23) i_4 t23) w8 fun t24 w9 =>
            CondP t24 0 (fun (k8 : N0) =>
              k8 w9)
            (fun (k9 : N0) =>
              k6 i_4 w9)
            (fun (w10 : World) => 
            JoinP 0 (fun (k10 : N0) =>
              ∀ w11, Ext w10 w11 →
              RunQ Tryd.prog (Instr.indexAt 55 ls_0 k_3) w11 fun t29 =>
              RunQ Tryd.prog (Instr.loadAt 145 t29) w11 fun t30 =>
              GoN Tryd.prog (callFunc 61 #[k_3, i_4]) w11 fun t34 w12 => Ext w11 w12 ∧
              RunQ Tryd.prog (Instr.indexAt 145 t30 i_4) w11 fun t35 =>
              RunU Tryd.prog (Instr.storeAt 147 t35 t34) w12 fun w13 =>
              k10 w13)
            (fun (w14 : World) => 
            Run Tryd.prog (binSem Go.BinOp.add 3 (Go.Operand.tmp 25) (Go.Operand.const (Go.Value.int Go.IntKind.i64 1)) i_4 (Go.Value.int Go.IntKind.i64 1)) w14 fun t26 w15 =>
            k7 t26 w15))))
          [(Go.Value.int Go.IntKind.i64 0)] w4)
        (fun (i_4 : Value) (w16 : World) => 
        k5 w16))
      (fun (w17 : World) => 
      Run Tryd.prog (binSem Go.BinOp.add 3 (Go.Operand.tmp 16) (Go.Operand.const (Go.Value.int Go.IntKind.i64 1)) k_3 (Go.Value.int Go.IntKind.i64 1)) w17 fun t17 w18 =>
      k2 t17 w18))))
    [(Go.Value.int Go.IntKind.i64 0)] w)
  (fun (k_3 : Value) (w19 : World) => 
  JoinP 2 (fun (k11 : N2) =>
    LoopP 2 (fun (k12 : N2) => (fun (gs_5 : Value) (k_6 : Value) (w20 : World) => 
      Run Tryd.prog (Builtin.len_ #[55] 3 #[ls_0]) w20 fun t38 w21 =>
      Run Tryd.prog (binSem Go.BinOp.lss 3 (Go.Operand.tmp 36) (Go.Operand.tmp 38) k_6 t38) w21 fun t39 w22 =>
      CondP t39 0 (fun (k13 : N0) =>
        k13 w22)
      (fun (k14 : N0) =>
        k11 gs_5 k_6 w22)
      (fun (w23 : World) => 
      JoinP 1 (fun (k15 : N1) =>
        Run Tryd.prog (Instr.indexAt 55 ls_0 k_6) w23 fun t44 w24 =>
        Run Tryd.prog (Instr.loadAt 145 t44) w24 fun t45 w25 =>
        JoinP 2 (fun (k16 : N2) =>
          LoopP 2 (fun (k17 : N2) => (fun (g_7 : Value) (i_8 : Value) (w26 : World) => 
            Run Tryd.prog (binSem Go.BinOp.lss 3 (Go.Operand.tmp 46) (Go.Operand.const (Go.Value.int Go.IntKind.i64 64)) i_8 (Go.Value.int Go.IntKind.i64 64)) w26 fun t47 w27 =>
            CondP t47 0 (fun (k18 : N0) =>
              k18 w27)
            (fun (k19 : N0) =>
              k16 g_7 i_8 w27)
            (fun (w28 : World) => 
            JoinP 1 (fun (k20 : N1) =>
              Run Tryd.prog (Instr.indexAt 55 ls_0 k_6) w28 fun t54 w29 =>
              Run Tryd.prog (Instr.loadAt 145 t54) w29 fun t55 w30 =>
              Run Tryd.prog (Builtin.len_ #[145] 3 #[t55]) w30 fun t56 w31 =>
              Run Tryd.prog (binSem Go.BinOp.add 3 (Go.Operand.tmp 56) (Go.Operand.tmp 57) t56 i_8) w31 fun t58 w32 =>
              GoN Tryd.prog (callFunc 61 #[k_6, t58]) w32 fun t59 w33 =>
              Run Tryd.prog (Instr.buildSlice 145 1 #[(0, t59)]) w33 fun t60 w34 =>
              Run Tryd.prog (Builtin.append_ #[145, 145] 145 #[g_7, t60]) w34 fun t61 w35 =>
              k20 t61 w35)
            (fun (g_7 : Value) (w36 : World) => 
            Run Tryd.prog (binSem Go.BinOp.add 3 (Go.Operand.tmp 48) (Go.Operand.const (Go.Value.int Go.IntKind.i64 1)) i_8 (Go.Value.int Go.IntKind.i64 1)) w36 fun t49 w37 =>
            k17 g_7 t49 w37))))
          [t45, (Go.Value.int Go.IntKind.i64 0)] w25)
        (fun (g_7 : Value) (i_8 : Value) (w38 : World) => 
        Run Tryd.prog (Instr.buildSlice 55 1 #[(0, g_7)]) w38 fun t64 w39 =>
        Run Tryd.prog (Builtin.append_ #[55, 55] 55 #[gs_5, t64]) w39 fun t65 w40 =>
        k15 t65 w40))
      (fun (gs_5 : Value) (w41 : World) => 
      Run Tryd.prog (binSem Go.BinOp.add 3 (Go.Operand.tmp 40) (Go.Operand.const (Go.Value.int Go.IntKind.i64 1)) k_6 (Go.Value.int Go.IntKind.i64 1)) w41 fun t41 w42 =>
      k12 gs_5 t41 w42))))
    [(Go.Value.slice none 0 0), (Go.Value.int Go.IntKind.i64 0)] w19)
  (fun (gs_5 : Value) (k_6 : Value) (w43 : World) => 
  JoinP 2 (fun (k21 : N2) =>
    LoopP 2 (fun (k22 : N2) => (fun (t2 : Value) (k_9 : Value) (w44 : World) => 
      Run Tryd.prog (Builtin.len_ #[55] 3 #[ls_0]) w44 fun t68 w45 =>
      Run Tryd.prog (binSem Go.BinOp.lss 3 (Go.Operand.tmp 66) (Go.Operand.tmp 68) k_9 t68) w45 fun t69 w46 =>
      CondP t69 0 (fun (k23 : N0) =>
        k23 w46)
      (fun (k24 : N0) =>
        k21 t2 k_9 w46)
      (fun (w47 : World) => 
      JoinP 1 (fun (k25 : N1) =>
        JoinP 2 (fun (k26 : N2) =>
          LoopP 2 (fun (k27 : N2) => (fun (t2 : Value) (i_10 : Value) (w48 : World) => 
            Run Tryd.prog (Instr.indexAt 55 gs_5 k_9) w48 fun t75 w49 =>
            Run Tryd.prog (Instr.loadAt 145 t75) w49 fun t76 w50 =>
            Run Tryd.prog (Builtin.len_ #[145] 3 #[t76]) w50 fun t77 w51 =>
            Run Tryd.prog (binSem Go.BinOp.lss 3 (Go.Operand.tmp 72) (Go.Operand.tmp 77) i_10 t77) w51 fun t78 w52 =>
            CondP t78 0 (fun (k28 : N0) =>
              k28 w52)
            (fun (k29 : N0) =>
              k26 t2 i_10 w52)
            (fun (w53 : World) => 
            JoinP 1 (fun (k30 : N1) =>
              GoN Tryd.prog (callFunc 61 #[k_9, i_10]) w53 fun t83 w54 =>
              Run Tryd.prog (Instr.alloc 147 true (.tuple #[])) w54 fun want_11 w55 =>
              RunU Tryd.prog (Instr.storeAt 147 want_11 t83) w55 fun w56 =>
              ∀ w57, Ext w56 w57 →
              RunQ Tryd.prog (Instr.indexAt 55 gs_5 k_9) w57 fun t86 =>
              RunQ Tryd.prog (Instr.loadAt 145 t86) w57 fun t87 =>
              RunQ Tryd.prog (Instr.indexAt 145 t87 i_10) w57 fun t89 =>
              RunQ Tryd.prog (Instr.loadAt 147 t89) w57 fun t90 =>
              RunQ Tryd.prog (Instr.loadAt 147 want_11) w57 fun t91 =>
              RunQ Tryd.prog (binSem Go.BinOp.neq 147 (Go.Operand.tmp 90) (Go.Operand.tmp 91) t90 t91) w57 fun t92 =>
              GuardQ t92 false (fun (k31 : Value → Prop) => k31 i_10) fun t94 =>
              GuardQ t92 false (fun (k32 : Value → Prop) => k32 ls_0) fun t95 =>
              GuardQ t92 false (fun (k33 : Value → Prop) => k33 k_9) fun t96 =>
              GuardQ t92 false (fun (k34 : Value → Prop) => RunQ Tryd.prog (Instr.indexAt 55 t95 t96) w57 k34) fun t97 =>
              GuardQ t92 false (fun (k35 : Value → Prop) => RunQ Tryd.prog (Instr.loadAt 145 t97) w57 k35) fun t98 =>
              GuardQ t92 false (fun (k36 : Value → Prop) => RunQ Tryd.prog (Builtin.len_ #[145] 3 #[t98]) w57 k36) fun t99 =>
              GuardQ t92 false (fun (k37 : Value → Prop) => RunQ Tryd.prog (binSem Go.BinOp.lss 3 (Go.Operand.tmp 94) (Go.Operand.tmp 99) t94 t99) w57 k37) fun t100 =>
              GuardQ t92 false (fun (k38 : Value → Prop) => k38 t100) fun t101 =>
              GuardQ t101 true (fun (k39 : Value → Prop) => k39 ls_0) fun t102 =>
              GuardQ t101 true (fun (k40 : Value → Prop) => k40 k_9) fun t103 =>
              GuardQ t101 true (fun (k41 : Value → Prop) => RunQ Tryd.prog (Instr.indexAt 55 t102 t103) w57 k41) fun t104 =>
              GuardQ t101 true (fun (k42 : Value → Prop) => RunQ Tryd.prog (Instr.loadAt 145 t104) w57 k42) fun t105 =>
              GuardQ t101 true (fun (k43 : Value → Prop) => k43 i_10) fun t106 =>
              GuardQ t101 true (fun (k44 : Value → Prop) => RunQ Tryd.prog (Instr.indexAt 145 t105 t106) w57 k44) fun t107 =>
              GuardQ t101 true (fun (k45 : Value → Prop) => RunQ Tryd.prog (Instr.loadAt 147 t107) w57 k45) fun t108 =>
              GuardQ t101 true (fun (k46 : Value → Prop) => RunQ Tryd.prog (Instr.loadAt 147 want_11) w57 k46) fun t109 =>
              GuardQ t101 true (fun (k47 : Value → Prop) => RunQ Tryd.prog (binSem Go.BinOp.neq 147 (Go.Operand.tmp 108) (Go.Operand.tmp 109) t108 t109) w57 k47) fun t110 =>
              GuardQ t92 false (fun (k48 : Value → Prop) => PickQ t101 t110 (Go.Value.bool false) k48) fun t111 =>
              PickQ t92 (Go.Value.bool true) t111 fun t112 =>
              CondP t112 1 (fun (k49 : N1) =>
                R (Go.Value.bool false) w57)
              (fun (k50 : N1) =>
                k50 t2 w57)
              (fun (t2 : Value) (w58 : World) => 
              k30 t2 w58))
            (fun (t2 : Value) (w59 : World) => 
            Run Tryd.prog (binSem Go.BinOp.add 3 (Go.Operand.tmp 79) (Go.Operand.const (Go.Value.int Go.IntKind.i64 1)) i_10 (Go.Value.int Go.IntKind.i64 1)) w59 fun t80 w60 =>
            k27 t2 t80 w60))))
          [t2, (Go.Value.int Go.IntKind.i64 0)] w47)
        (fun (t2 : Value) (i_10 : Value) (w61 : World) => 
        k25 t2 w61))
      (fun (t2 : Value) (w62 : World) => 
      Run Tryd.prog (binSem Go.BinOp.add 3 (Go.Operand.tmp 70) (Go.Operand.const (Go.Value.int Go.IntKind.i64 1)) k_9 (Go.Value.int Go.IntKind.i64 1)) w62 fun t71 w63 =>
      k22 t2 t71 w63))))
    [(Go.Value.bool false), (Go.Value.int Go.IntKind.i64 0)] w43)
  (fun (t2 : Value) (k_9 : Value) (w64 : World) => 
  R (Go.Value.bool true) w64)))
theorem S35_eq (ls_0 : Value) (w : World) (R : Value → World → Prop) : vcFn Tryd.prog Tryd.f35 [ls_0] w R = S35 ls_0 w R := by kernel_rfl
theorem D35 {ls_0 : Value} {w : World} {R : Value → World → Prop} (h : S35 ls_0 w R) : Does Tryd.prog 35 [ls_0] w R :=
  does_of_vc mixed Tryd.func35 (by kernel_rfl) (by kernel_rfl) ((S35_eq ls_0 w R).mpr h)

/-- busbar/busbarkit.ApartRows -/
def S36 (ls_0 : Value) (w : World) (R : Value → World → Prop) : Prop :=
  JoinP 1 (fun (k1 : N1) =>
    LoopP 1 (fun (k2 : N1) => (fun (k_3 : Value) (w1 : World) => 
      Run Tryd.prog (Builtin.len_ #[56] 3 #[ls_0]) w1 fun t14 w2 =>
      Run Tryd.prog (binSem Go.BinOp.lss 3 (Go.Operand.tmp 12) (Go.Operand.tmp 14) k_3 t14) w2 fun t15 w3 =>
      CondP t15 0 (fun (k3 : N0) =>
        k3 w3)
      (fun (k4 : N0) =>
        k1 k_3 w3)
      (fun (w4 : World) => 
      JoinP 0 (fun (k5 : N0) =>
        JoinP 1 (fun (k6 : N1) =>
          LoopP 1 (fun (k7 : N1) => (fun (i_4 : Value) (w5 : World) => 
            Run Tryd.prog (Instr.indexAt 56 ls_0 k_3) w5 fun t21 w6 =>
            Run Tryd.prog (Instr.loadAt 79 t21) w6 fun t22 w7 =>
            Run Tryd.prog (Builtin.len_ #[79] 3 #[t22]) w7 fun t23 w8 =>
            Run Tryd.prog (binSem Go.BinOp.lss 3 (Go.Operand.tmp 18) (Go.Operand.tmp 23) i_4 t23) w8 fun t24 w9 =>
            CondP t24 0 (fun (k8 : N0) =>
              k8 w9)
            (fun (k9 : N0) =>
              k6 i_4 w9)
            (fun (w10 : World) => 
            JoinP 0 (fun (k10 : N0) =>
              ∀ w11, Ext w10 w11 →
              RunQ Tryd.prog (Instr.indexAt 56 ls_0 k_3) w11 fun t29 =>
              RunQ Tryd.prog (Instr.loadAt 79 t29) w11 fun t30 =>
              GoN Tryd.prog (callFunc 62 #[k_3, i_4]) w11 fun t34 w12 => Ext w11 w12 ∧
              RunQ Tryd.prog (Instr.indexAt 79 t30 i_4) w11 fun t35 =>
              RunU Tryd.prog (Instr.storeAt 133 t35 t34) w12 fun w13 =>
              k10 w13)
            (fun (w14 : World) => 
            Run Tryd.prog (binSem Go.BinOp.add 3 (Go.Operand.tmp 25) (Go.Operand.const (Go.Value.int Go.IntKind.i64 1)) i_4 (Go.Value.int Go.IntKind.i64 1)) w14 fun t26 w15 =>
            k7 t26 w15))))
          [(Go.Value.int Go.IntKind.i64 0)] w4)
        (fun (i_4 : Value) (w16 : World) => 
        k5 w16))
      (fun (w17 : World) => 
      Run Tryd.prog (binSem Go.BinOp.add 3 (Go.Operand.tmp 16) (Go.Operand.const (Go.Value.int Go.IntKind.i64 1)) k_3 (Go.Value.int Go.IntKind.i64 1)) w17 fun t17 w18 =>
      k2 t17 w18))))
    [(Go.Value.int Go.IntKind.i64 0)] w)
  (fun (k_3 : Value) (w19 : World) => 
  JoinP 2 (fun (k11 : N2) =>
    LoopP 2 (fun (k12 : N2) => (fun (gs_5 : Value) (k_6 : Value) (w20 : World) => 
      Run Tryd.prog (Builtin.len_ #[56] 3 #[ls_0]) w20 fun t38 w21 =>
      Run Tryd.prog (binSem Go.BinOp.lss 3 (Go.Operand.tmp 36) (Go.Operand.tmp 38) k_6 t38) w21 fun t39 w22 =>
      CondP t39 0 (fun (k13 : N0) =>
        k13 w22)
      (fun (k14 : N0) =>
        k11 gs_5 k_6 w22)
      (fun (w23 : World) => 
      JoinP 1 (fun (k15 : N1) =>
        Run Tryd.prog (Instr.indexAt 56 ls_0 k_6) w23 fun t44 w24 =>
        Run Tryd.prog (Instr.loadAt 79 t44) w24 fun t45 w25 =>
        JoinP 2 (fun (k16 : N2) =>
          LoopP 2 (fun (k17 : N2) => (fun (g_7 : Value) (i_8 : Value) (w26 : World) => 
            Run Tryd.prog (binSem Go.BinOp.lss 3 (Go.Operand.tmp 46) (Go.Operand.const (Go.Value.int Go.IntKind.i64 64)) i_8 (Go.Value.int Go.IntKind.i64 64)) w26 fun t47 w27 =>
            CondP t47 0 (fun (k18 : N0) =>
              k18 w27)
            (fun (k19 : N0) =>
              k16 g_7 i_8 w27)
            (fun (w28 : World) => 
            JoinP 1 (fun (k20 : N1) =>
              Run Tryd.prog (Instr.indexAt 56 ls_0 k_6) w28 fun t54 w29 =>
              Run Tryd.prog (Instr.loadAt 79 t54) w29 fun t55 w30 =>
              Run Tryd.prog (Builtin.len_ #[79] 3 #[t55]) w30 fun t56 w31 =>
              Run Tryd.prog (binSem Go.BinOp.add 3 (Go.Operand.tmp 56) (Go.Operand.tmp 57) t56 i_8) w31 fun t58 w32 =>
              GoN Tryd.prog (callFunc 62 #[k_6, t58]) w32 fun t59 w33 =>
              Run Tryd.prog (Instr.buildSlice 79 1 #[(0, t59)]) w33 fun t60 w34 =>
              Run Tryd.prog (Builtin.append_ #[79, 79] 79 #[g_7, t60]) w34 fun t61 w35 =>
              k20 t61 w35)
            (fun (g_7 : Value) (w36 : World) => 
            Run Tryd.prog (binSem Go.BinOp.add 3 (Go.Operand.tmp 48) (Go.Operand.const (Go.Value.int Go.IntKind.i64 1)) i_8 (Go.Value.int Go.IntKind.i64 1)) w36 fun t49 w37 =>
            k17 g_7 t49 w37))))
          [t45, (Go.Value.int Go.IntKind.i64 0)] w25)
        (fun (g_7 : Value) (i_8 : Value) (w38 : World) => 
        Run Tryd.prog (Instr.buildSlice 56 1 #[(0, g_7)]) w38 fun t64 w39 =>
        Run Tryd.prog (Builtin.append_ #[56, 56] 56 #[gs_5, t64]) w39 fun t65 w40 =>
        k15 t65 w40))
      (fun (gs_5 : Value) (w41 : World) => 
      Run Tryd.prog (binSem Go.BinOp.add 3 (Go.Operand.tmp 40) (Go.Operand.const (Go.Value.int Go.IntKind.i64 1)) k_6 (Go.Value.int Go.IntKind.i64 1)) w41 fun t41 w42 =>
      k12 gs_5 t41 w42))))
    [(Go.Value.slice none 0 0), (Go.Value.int Go.IntKind.i64 0)] w19)
  (fun (gs_5 : Value) (k_6 : Value) (w43 : World) => 
  JoinP 2 (fun (k21 : N2) =>
    LoopP 2 (fun (k22 : N2) => (fun (t2 : Value) (k_9 : Value) (w44 : World) => 
      Run Tryd.prog (Builtin.len_ #[56] 3 #[ls_0]) w44 fun t68 w45 =>
      Run Tryd.prog (binSem Go.BinOp.lss 3 (Go.Operand.tmp 66) (Go.Operand.tmp 68) k_9 t68) w45 fun t69 w46 =>
      CondP t69 0 (fun (k23 : N0) =>
        k23 w46)
      (fun (k24 : N0) =>
        k21 t2 k_9 w46)
      (fun (w47 : World) => 
      JoinP 1 (fun (k25 : N1) =>
        JoinP 2 (fun (k26 : N2) =>
          LoopP 2 (fun (k27 : N2) => (fun (t2 : Value) (i_10 : Value) (w48 : World) => 
            Run Tryd.prog (Instr.indexAt 56 gs_5 k_9) w48 fun t75 w49 =>
            Run Tryd.prog (Instr.loadAt 79 t75) w49 fun t76 w50 =>
            Run Tryd.prog (Builtin.len_ #[79] 3 #[t76]) w50 fun t77 w51 =>
            Run Tryd.prog (binSem Go.BinOp.lss 3 (Go.Operand.tmp 72) (Go.Operand.tmp 77) i_10 t77) w51 fun t78 w52 =>
            CondP t78 0 (fun (k28 : N0) =>
              k28 w52)
            (fun (k29 : N0) =>
              k26 t2 i_10 w52)
            (fun (w53 : World) => 
            JoinP 1 (fun (k30 : N1) =>
              GoN Tryd.prog (callFunc 62 #[k_9, i_10]) w53 fun t83 w54 =>
              Run Tryd.prog (Instr.alloc 133 true (.tuple #[])) w54 fun want_11 w55 =>
              RunU Tryd.prog (Instr.storeAt 133 want_11 t83) w55 fun w56 =>
              ∀ w57, Ext w56 w57 →
              RunQ Tryd.prog (Instr.indexAt 56 gs_5 k_9) w57 fun t86 =>
              RunQ Tryd.prog (Instr.loadAt 79 t86) w57 fun t87 =>
              RunQ Tryd.prog (Instr.indexAt 79 t87 i_10) w57 fun t89 =>
              RunQ Tryd.prog (Instr.loadAt 133 t89) w57 fun t90 =>
              RunQ Tryd.prog (Instr.loadAt 133 want_11) w57 fun t91 =>
              RunQ Tryd.prog (binSem Go.BinOp.neq 133 (Go.Operand.tmp 90) (Go.Operand.tmp 91) t90 t91) w57 fun t92 =>
              GuardQ t92 false (fun (k31 : Value → Prop) => k31 i_10) fun t94 =>
              GuardQ t92 false (fun (k32 : Value → Prop) => k32 ls_0) fun t95 =>
              GuardQ t92 false (fun (k33 : Value → Prop) => k33 k_9) fun t96 =>
              GuardQ t92 false (fun (k34 : Value → Prop) => RunQ Tryd.prog (Instr.indexAt 56 t95 t96) w57 k34) fun t97 =>
              GuardQ t92 false (fun (k35 : Value → Prop) => RunQ Tryd.prog (Instr.loadAt 79 t97) w57 k35) fun t98 =>
              GuardQ t92 false (fun (k36 : Value → Prop) => RunQ Tryd.prog (Builtin.len_ #[79] 3 #[t98]) w57 k36) fun t99 =>
              GuardQ t92 false (fun (k37 : Value → Prop) => RunQ Tryd.prog (binSem Go.BinOp.lss 3 (Go.Operand.tmp 94) (Go.Operand.tmp 99) t94 t99) w57 k37) fun t100 =>
              GuardQ t92 false (fun (k38 : Value → Prop) => k38 t100) fun t101 =>
              GuardQ t101 true (fun (k39 : Value → Prop) => k39 ls_0) fun t102 =>
              GuardQ t101 true (fun (k40 : Value → Prop) => k40 k_9) fun t103 =>
              GuardQ t101 true (fun (k41 : Value → Prop) => RunQ Tryd.prog (Instr.indexAt 56 t102 t103) w57 k41) fun t104 =>
              GuardQ t101 true (fun (k42 : Value → Prop) => RunQ Tryd.prog (Instr.loadAt 79 t104) w57 k42) fun t105 =>
              GuardQ t101 true (fun (k43 : Value → Prop) => k43 i_10) fun t106 =>
              GuardQ t101 true (fun (k44 : Value → Prop) => RunQ Tryd.prog (Instr.indexAt 79 t105 t106) w57 k44) fun t107 =>
              GuardQ t101 true (fun (k45 : Value → Prop) => RunQ Tryd.prog (Instr.loadAt 133 t107) w57 k45) fun t108 =>
              GuardQ t101 true (fun (k46 : Value → Prop) => RunQ Tryd.prog (Instr.loadAt 133 want_11) w57 k46) fun t109 =>
              GuardQ t101 true (fun (k47 : Value → Prop) => RunQ Tryd.prog (binSem Go.BinOp.neq 133 (Go.Operand.tmp 108) (Go.Operand.tmp 109) t108 t109) w57 k47) fun t110 =>
              GuardQ t92 false (fun (k48 : Value → Prop) => PickQ t101 t110 (Go.Value.bool false) k48) fun t111 =>
              PickQ t92 (Go.Value.bool true) t111 fun t112 =>
              CondP t112 1 (fun (k49 : N1) =>
                R (Go.Value.bool false) w57)
              (fun (k50 : N1) =>
                k50 t2 w57)
              (fun (t2 : Value) (w58 : World) => 
              k30 t2 w58))
            (fun (t2 : Value) (w59 : World) => 
            Run Tryd.prog (binSem Go.BinOp.add 3 (Go.Operand.tmp 79) (Go.Operand.const (Go.Value.int Go.IntKind.i64 1)) i_10 (Go.Value.int Go.IntKind.i64 1)) w59 fun t80 w60 =>
            k27 t2 t80 w60))))
          [t2, (Go.Value.int Go.IntKind.i64 0)] w47)
        (fun (t2 : Value) (i_10 : Value) (w61 : World) => 
        k25 t2 w61))
      (fun (t2 : Value) (w62 : World) => 
      Run Tryd.prog (binSem Go.BinOp.add 3 (Go.Operand.tmp 70) (Go.Operand.const (Go.Value.int Go.IntKind.i64 1)) k_9 (Go.Value.int Go.IntKind.i64 1)) w62 fun t71 w63 =>
      k22 t2 t71 w63))))
    [(Go.Value.bool false), (Go.Value.int Go.IntKind.i64 0)] w43)
  (fun (t2 : Value) (k_9 : Value) (w64 : World) => 
  R (Go.Value.bool true) w64)))
theorem S36_eq (ls_0 : Value) (w : World) (R : Value → World → Prop) : vcFn Tryd.prog Tryd.f36 [ls_0] w R = S36 ls_0 w R := by kernel_rfl
theorem D36 {ls_0 : Value} {w : World} {R : Value → World → Prop} (h : S36 ls_0 w R) : Does Tryd.prog 36 [ls_0] w R :=
  does_of_vc mixed Tryd.func36 (by kernel_rfl) (by kernel_rfl) ((S36_eq ls_0 w R).mpr h)

/-- busbar/busbarkit.ApartInstrs -/
def S37 (ls_0 : Value) (w : World) (R : Value → World → Prop) : Prop :=
  JoinP 1 (fun (k1 : N1) =>
    LoopP 1 (fun (k2 : N1) => (fun (k_3 : Value) (w1 : World) => 
      Run Tryd.prog (Builtin.len_ #[57] 3 #[ls_0]) w1 fun t14 w2 =>
      Run Tryd.prog (binSem Go.BinOp.lss 3 (Go.Operand.tmp 12) (Go.Operand.tmp 14) k_3 t14) w2 fun t15 w3 =>
      CondP t15 0 (fun (k3 : N0) =>
        k3 w3)
      (fun (k4 : N0) =>
        k1 k_3 w3)
      (fun (w4 : World) => 
      JoinP 0 (fun (k5 : N0) =>
        JoinP 1 (fun (k6 : N1) =>
          LoopP 1 (fun (k7 : N1) => (fun (i_4 : Value) (w5 : World) => 
            Run Tryd.prog (Instr.indexAt 57 ls_0 k_3) w5 fun t21 w6 =>
            Run Tryd.prog (Instr.loadAt 150 t21) w6 fun t22 w7 =>
            Run Tryd.prog (Builtin.len_ #[150] 3 #[t22]) w7 fun t23 w8 =>
            Run Tryd.prog (binSem Go.BinOp.lss 3 (Go.Operand.tmp 18) (Go.Operand.tmp 23) i_4 t23) w8 fun t24 w9 =>
            CondP t24 0 (fun (k8 : N0) =>
              k8 w9)
            (fun (k9 : N0) =>
              k6 i_4 w9)
            (fun (w10 : World) => 
            JoinP 0 (fun (k10 : N0) =>
              ∀ w11, Ext w10 w11 →
              RunQ Tryd.prog (Instr.indexAt 57 ls_0 k_3) w11 fun t29 =>
              RunQ Tryd.prog (Instr.loadAt 150 t29) w11 fun t30 =>
              GoN Tryd.prog (callFunc 63 #[k_3, i_4]) w11 fun t34 w12 => Ext w11 w12 ∧
              RunQ Tryd.prog (Instr.indexAt 150 t30 i_4) w11 fun t35 =>
              RunU Tryd.prog (Instr.storeAt 152 t35 t34) w12 fun w13 =>
              k10 w13)
            (fun (w14 : World) => 
            Run Tryd.prog (binSem Go.BinOp.add 3 (Go.Operand.tmp 25) (Go.Operand.const (Go.Value.int Go.IntKind.i64 1)) i_4 (Go.Value.int Go.IntKind.i64 1)) w14 fun t26 w15 =>
            k7 t26 w15))))
          [(Go.Value.int Go.IntKind.i64 0)] w4)
        (fun (i_4 : Value) (w16 : World) => 
        k5 w16))
      (fun (w17 : World) => 
      Run Tryd.prog (binSem Go.BinOp.add 3 (Go.Operand.tmp 16) (Go.Operand.const (Go.Value.int Go.IntKind.i64 1)) k_3 (Go.Value.int Go.IntKind.i64 1)) w17 fun t17 w18 =>
      k2 t17 w18))))
    [(Go.Value.int Go.IntKind.i64 0)] w)
  (fun (k_3 : Value) (w19 : World) => 
  JoinP 2 (fun (k11 : N2) =>
    LoopP 2 (fun (k12 : N2) => (fun (gs_5 : Value) (k_6 : Value) (w20 : World) => 
      Run Tryd.prog (Builtin.len_ #[57] 3 #[ls_0]) w20 fun t38 w21 =>
      Run Tryd.prog (binSem Go.BinOp.lss 3 (Go.Operand.tmp 36) (Go.Operand.tmp 38) k_6 t38) w21 fun t39 w22 =>
      CondP t39 0 (fun (k13 : N0) =>
        k13 w22)
      (fun (k14 : N0) =>
        k11 gs_5 k_6 w22)
      (fun (w23 : World) => 
      JoinP 1 (fun (k15 : N1) =>
        Run Tryd.prog (Instr.indexAt 57 ls_0 k_6) w23 fun t44 w24 =>
        Run Tryd.prog (Instr.loadAt 150 t44) w24 fun t45 w25 =>
        JoinP 2 (fun (k16 : N2) =>
          LoopP 2 (fun (k17 : N2) => (fun (g_7 : Value) (i_8 : Value) (w26 : World) => 
            Run Tryd.prog (binSem Go.BinOp.lss 3 (Go.Operand.tmp 46) (Go.Operand.const (Go.Value.int Go.IntKind.i64 64)) i_8 (Go.Value.int Go.IntKind.i64 64)) w26 fun t47 w27 =>
            CondP t47 0 (fun (k18 : N0) =>
              k18 w27)
            (fun (k19 : N0) =>
              k16 g_7 i_8 w27)
            (fun (w28 : World) => 
            JoinP 1 (fun (k20 : N1) =>
              Run Tryd.prog (Instr.indexAt 57 ls_0 k_6) w28 fun t54 w29 =>
              Run Tryd.prog (Instr.loadAt 150 t54) w29 fun t55 w30 =>
              Run Tryd.prog (Builtin.len_ #[150] 3 #[t55]) w30 fun t56 w31 =>
              Run Tryd.prog (binSem Go.BinOp.add 3 (Go.Operand.tmp 56) (Go.Operand.tmp 57) t56 i_8) w31 fun t58 w32 =>
              GoN Tryd.prog (callFunc 63 #[k_6, t58]) w32 fun t59 w33 =>
              Run Tryd.prog (Instr.buildSlice 150 1 #[(0, t59)]) w33 fun t60 w34 =>
              Run Tryd.prog (Builtin.append_ #[150, 150] 150 #[g_7, t60]) w34 fun t61 w35 =>
              k20 t61 w35)
            (fun (g_7 : Value) (w36 : World) => 
            Run Tryd.prog (binSem Go.BinOp.add 3 (Go.Operand.tmp 48) (Go.Operand.const (Go.Value.int Go.IntKind.i64 1)) i_8 (Go.Value.int Go.IntKind.i64 1)) w36 fun t49 w37 =>
            k17 g_7 t49 w37))))
          [t45, (Go.Value.int Go.IntKind.i64 0)] w25)
        (fun (g_7 : Value) (i_8 : Value) (w38 : World) => 
        Run Tryd.prog (Instr.buildSlice 57 1 #[(0, g_7)]) w38 fun t64 w39 =>
        Run Tryd.prog (Builtin.append_ #[57, 57] 57 #[gs_5, t64]) w39 fun t65 w40 =>
        k15 t65 w40))
      (fun (gs_5 : Value) (w41 : World) => 
      Run Tryd.prog (binSem Go.BinOp.add 3 (Go.Operand.tmp 40) (Go.Operand.const (Go.Value.int Go.IntKind.i64 1)) k_6 (Go.Value.int Go.IntKind.i64 1)) w41 fun t41 w42 =>
      k12 gs_5 t41 w42))))
    [(Go.Value.slice none 0 0), (Go.Value.int Go.IntKind.i64 0)] w19)
  (fun (gs_5 : Value) (k_6 : Value) (w43 : World) => 
  JoinP 2 (fun (k21 : N2) =>
    LoopP 2 (fun (k22 : N2) => (fun (t2 : Value) (k_9 : Value) (w44 : World) => 
      Run Tryd.prog (Builtin.len_ #[57] 3 #[ls_0]) w44 fun t68 w45 =>
      Run Tryd.prog (binSem Go.BinOp.lss 3 (Go.Operand.tmp 66) (Go.Operand.tmp 68) k_9 t68) w45 fun t69 w46 =>
      CondP t69 0 (fun (k23 : N0) =>
        k23 w46)
      (fun (k24 : N0) =>
        k21 t2 k_9 w46)
      (fun (w47 : World) => 
      JoinP 1 (fun (k25 : N1) =>
        JoinP 2 (fun (k26 : N2) =>
          LoopP 2 (fun (k27 : N2) => (fun (t2 : Value) (i_10 : Value) (w48 : World) => 
            Run Tryd.prog (Instr.indexAt 57 gs_5 k_9) w48 fun t75 w49 =>
            Run Tryd.prog (Instr.loadAt 150 t75) w49 fun t76 w50 =>
            Run Tryd.prog (Builtin.len_ #[150] 3 #[t76]) w50 fun t77 w51 =>
            Run Tryd.prog (binSem Go.BinOp.lss 3 (Go.Operand.tmp 72) (Go.Operand.tmp 77) i_10 t77) w51 fun t78 w52 =>
            CondP t78 0 (fun (k28 : N0) =>
              k28 w52)
            (fun (k29 : N0) =>
              k26 t2 i_10 w52)
            (fun (w53 : World) => 
            JoinP 1 (fun (k30 : N1) =>
              GoN Tryd.prog (callFunc 63 #[k_9, i_10]) w53 fun t83 w54 =>
              Run Tryd.prog (Instr.alloc 152 true (.tuple #[])) w54 fun want_11 w55 =>
              RunU Tryd.prog (Instr.storeAt 152 want_11 t83) w55 fun w56 =>
              ∀ w57, Ext w56 w57 →
              RunQ Tryd.prog (Instr.indexAt 57 gs_5 k_9) w57 fun t86 =>
              RunQ Tryd.prog (Instr.loadAt 150 t86) w57 fun t87 =>
              RunQ Tryd.prog (Instr.indexAt 150 t87 i_10) w57 fun t89 =>
              RunQ Tryd.prog (Instr.loadAt 152 t89) w57 fun t90 =>
              RunQ Tryd.prog (Instr.loadAt 152 want_11) w57 fun t91 =>
              RunQ Tryd.prog (binSem Go.BinOp.neq 152 (Go.Operand.tmp 90) (Go.Operand.tmp 91) t90 t91) w57 fun t92 =>
              GuardQ t92 false (fun (k31 : Value → Prop) => k31 i_10) fun t94 =>
              GuardQ t92 false (fun (k32 : Value → Prop) => k32 ls_0) fun t95 =>
              GuardQ t92 false (fun (k33 : Value → Prop) => k33 k_9) fun t96 =>
              GuardQ t92 false (fun (k34 : Value → Prop) => RunQ Tryd.prog (Instr.indexAt 57 t95 t96) w57 k34) fun t97 =>
              GuardQ t92 false (fun (k35 : Value → Prop) => RunQ Tryd.prog (Instr.loadAt 150 t97) w57 k35) fun t98 =>
              GuardQ t92 false (fun (k36 : Value → Prop) => RunQ Tryd.prog (Builtin.len_ #[150] 3 #[t98]) w57 k36) fun t99 =>
              GuardQ t92 false (fun (k37 : Value → Prop) => RunQ Tryd.prog (binSem Go.BinOp.lss 3 (Go.Operand.tmp 94) (Go.Operand.tmp 99) t94 t99) w57 k37) fun t100 =>
              GuardQ t92 false (fun (k38 : Value → Prop) => k38 t100) fun t101 =>
              GuardQ t101 true (fun (k39 : Value → Prop) => k39 ls_0) fun t102 =>
              GuardQ t101 true (fun (k40 : Value → Prop) => k40 k_9) fun t103 =>
              GuardQ t101 true (fun (k41 : Value → Prop) => RunQ Tryd.prog (Instr.indexAt 57 t102 t103) w57 k41) fun t104 =>
              GuardQ t101 true (fun (k42 : Value → Prop) => RunQ Tryd.prog (Instr.loadAt 150 t104) w57 k42) fun t105 =>
              GuardQ t101 true (fun (k43 : Value → Prop) => k43 i_10) fun t106 =>
              GuardQ t101 true (fun (k44 : Value → Prop) => RunQ Tryd.prog (Instr.indexAt 150 t105 t106) w57 k44) fun t107 =>
              GuardQ t101 true (fun (k45 : Value → Prop) => RunQ Tryd.prog (Instr.loadAt 152 t107) w57 k45) fun t108 =>
              GuardQ t101 true (fun (k46 : Value → Prop) => RunQ Tryd.prog (Instr.loadAt 152 want_11) w57 k46) fun t109 =>
              GuardQ t101 true (fun (k47 : Value → Prop) => RunQ Tryd.prog (binSem Go.BinOp.neq 152 (Go.Operand.tmp 108) (Go.Operand.tmp 109) t108 t109) w57 k47) fun t110 =>
              GuardQ t92 false (fun (k48 : Value → Prop) => PickQ t101 t110 (Go.Value.bool false) k48) fun t111 =>
              PickQ t92 (Go.Value.bool true) t111 fun t112 =>
              CondP t112 1 (fun (k49 : N1) =>
                R (Go.Value.bool false) w57)
              (fun (k50 : N1) =>
                k50 t2 w57)
              (fun (t2 : Value) (w58 : World) => 
              k30 t2 w58))
            (fun (t2 : Value) (w59 : World) => 
            Run Tryd.prog (binSem Go.BinOp.add 3 (Go.Operand.tmp 79) (Go.Operand.const (Go.Value.int Go.IntKind.i64 1)) i_10 (Go.Value.int Go.IntKind.i64 1)) w59 fun t80 w60 =>
            k27 t2 t80 w60))))
          [t2, (Go.Value.int Go.IntKind.i64 0)] w47)
        (fun (t2 : Value) (i_10 : Value) (w61 : World) => 
        k25 t2 w61))
      (fun (t2 : Value) (w62 : World) => 
      Run Tryd.prog (binSem Go.BinOp.add 3 (Go.Operand.tmp 70) (Go.Operand.const (Go.Value.int Go.IntKind.i64 1)) k_9 (Go.Value.int Go.IntKind.i64 1)) w62 fun t71 w63 =>
      k22 t2 t71 w63))))
    [(Go.Value.bool false), (Go.Value.int Go.IntKind.i64 0)] w43)
  (fun (t2 : Value) (k_9 : Value) (w64 : World) => 
  R (Go.Value.bool true) w64)))
theorem S37_eq (ls_0 : Value) (w : World) (R : Value → World → Prop) : vcFn Tryd.prog Tryd.f37 [ls_0] w R = S37 ls_0 w R := by kernel_rfl
theorem D37 {ls_0 : Value} {w : World} {R : Value → World → Prop} (h : S37 ls_0 w R) : Does Tryd.prog 37 [ls_0] w R :=
  does_of_vc mixed Tryd.func37 (by kernel_rfl) (by kernel_rfl) ((S37_eq ls_0 w R).mpr h)

/-- busbar/busbarkit.ApartRules -/
def S38 (ls_0 : Value) (w : World) (R : Value → World → Prop) : Prop :=
  JoinP 1 (fun (k1 : N1) =>
    LoopP 1 (fun (k2 : N1) => (fun (k_3 : Value) (w1 : World) => 
      Run Tryd.prog (Builtin.len_ #[58] 3 #[ls_0]) w1 fun t14 w2 =>
      Run Tryd.prog (binSem Go.BinOp.lss 3 (Go.Operand.tmp 12) (Go.Operand.tmp 14) k_3 t14) w2 fun t15 w3 =>
      CondP t15 0 (fun (k3 : N0) =>
        k3 w3)
      (fun (k4 : N0) =>
        k1 k_3 w3)
      (fun (w4 : World) => 
      JoinP 0 (fun (k5 : N0) =>
        JoinP 1 (fun (k6 : N1) =>
          LoopP 1 (fun (k7 : N1) => (fun (i_4 : Value) (w5 : World) => 
            Run Tryd.prog (Instr.indexAt 58 ls_0 k_3) w5 fun t21 w6 =>
            Run Tryd.prog (Instr.loadAt 154 t21) w6 fun t22 w7 =>
            Run Tryd.prog (Builtin.len_ #[154] 3 #[t22]) w7 fun t23 w8 =>
            Run Tryd.prog (binSem Go.BinOp.lss 3 (Go.Operand.tmp 18) (Go.Operand.tmp 23) i_4 t23) w8 fun t24 w9 =>
            CondP t24 0 (fun (k8 : N0) =>
              k8 w9)
            (fun (k9 : N0) =>
              k6 i_4 w9)
            (fun (w10 : World) => 
            JoinP 0 (fun (k10 : N0) =>
              ∀ w11, Ext w10 w11 →
              RunQ Tryd.prog (Instr.indexAt 58 ls_0 k_3) w11 fun t29 =>
              RunQ Tryd.prog (Instr.loadAt 154 t29) w11 fun t30 =>
              GoN Tryd.prog (callFunc 64 #[k_3, i_4]) w11 fun t34 w12 => Ext w11 w12 ∧
              RunQ Tryd.prog (Instr.indexAt 154 t30 i_4) w11 fun t35 =>
              RunU Tryd.prog (Instr.storeAt 156 t35 t34) w12 fun w13 =>
              k10 w13)
            (fun (w14 : World) => 
            Run Tryd.prog (binSem Go.BinOp.add 3 (Go.Operand.tmp 25) (Go.Operand.const (Go.Value.int Go.IntKind.i64 1)) i_4 (Go.Value.int Go.IntKind.i64 1)) w14 fun t26 w15 =>
            k7 t26 w15))))
          [(Go.Value.int Go.IntKind.i64 0)] w4)
        (fun (i_4 : Value) (w16 : World) => 
        k5 w16))
      (fun (w17 : World) => 
      Run Tryd.prog (binSem Go.BinOp.add 3 (Go.Operand.tmp 16) (Go.Operand.const (Go.Value.int Go.IntKind.i64 1)) k_3 (Go.Value.int Go.IntKind.i64 1)) w17 fun t17 w18 =>
      k2 t17 w18))))
    [(Go.Value.int Go.IntKind.i64 0)] w)
  (fun (k_3 : Value) (w19 : World) => 
  JoinP 2 (fun (k11 : N2) =>
    LoopP 2 (fun (k12 : N2) => (fun (gs_5 : Value) (k_6 : Value) (w20 : World) => 
      Run Tryd.prog (Builtin.len_ #[58] 3 #[ls_0]) w20 fun t38 w21 =>
      Run Tryd.prog (binSem Go.BinOp.lss 3 (Go.Operand.tmp 36) (Go.Operand.tmp 38) k_6 t38) w21 fun t39 w22 =>
      CondP t39 0 (fun (k13 : N0) =>
        k13 w22)
      (fun (k14 : N0) =>
        k11 gs_5 k_6 w22)
      (fun (w23 : World) => 
      JoinP 1 (fun (k15 : N1) =>
        Run Tryd.prog (Instr.indexAt 58 ls_0 k_6) w23 fun t44 w24 =>
        Run Tryd.prog (Instr.loadAt 154 t44) w24 fun t45 w25 =>
        JoinP 2 (fun (k16 : N2) =>
          LoopP 2 (fun (k17 : N2) => (fun (g_7 : Value) (i_8 : Value) (w26 : World) => 
            Run Tryd.prog (binSem Go.BinOp.lss 3 (Go.Operand.tmp 46) (Go.Operand.const (Go.Value.int Go.IntKind.i64 64)) i_8 (Go.Value.int Go.IntKind.i64 64)) w26 fun t47 w27 =>
            CondP t47 0 (fun (k18 : N0) =>
              k18 w27)
            (fun (k19 : N0) =>
              k16 g_7 i_8 w27)
            (fun (w28 : World) => 
            JoinP 1 (fun (k20 : N1) =>
              Run Tryd.prog (Instr.indexAt 58 ls_0 k_6) w28 fun t54 w29 =>
              Run Tryd.prog (Instr.loadAt 154 t54) w29 fun t55 w30 =>
              Run Tryd.prog (Builtin.len_ #[154] 3 #[t55]) w30 fun t56 w31 =>
              Run Tryd.prog (binSem Go.BinOp.add 3 (Go.Operand.tmp 56) (Go.Operand.tmp 57) t56 i_8) w31 fun t58 w32 =>
              GoN Tryd.prog (callFunc 64 #[k_6, t58]) w32 fun t59 w33 =>
              Run Tryd.prog (Instr.buildSlice 154 1 #[(0, t59)]) w33 fun t60 w34 =>
              Run Tryd.prog (Builtin.append_ #[154, 154] 154 #[g_7, t60]) w34 fun t61 w35 =>
              k20 t61 w35)
            (fun (g_7 : Value) (w36 : World) => 
            Run Tryd.prog (binSem Go.BinOp.add 3 (Go.Operand.tmp 48) (Go.Operand.const (Go.Value.int Go.IntKind.i64 1)) i_8 (Go.Value.int Go.IntKind.i64 1)) w36 fun t49 w37 =>
            k17 g_7 t49 w37))))
          [t45, (Go.Value.int Go.IntKind.i64 0)] w25)
        (fun (g_7 : Value) (i_8 : Value) (w38 : World) => 
        Run Tryd.prog (Instr.buildSlice 58 1 #[(0, g_7)]) w38 fun t64 w39 =>
        Run Tryd.prog (Builtin.append_ #[58, 58] 58 #[gs_5, t64]) w39 fun t65 w40 =>
        k15 t65 w40))
      (fun (gs_5 : Value) (w41 : World) => 
      Run Tryd.prog (binSem Go.BinOp.add 3 (Go.Operand.tmp 40) (Go.Operand.const (Go.Value.int Go.IntKind.i64 1)) k_6 (Go.Value.int Go.IntKind.i64 1)) w41 fun t41 w42 =>
      k12 gs_5 t41 w42))))
    [(Go.Value.slice none 0 0), (Go.Value.int Go.IntKind.i64 0)] w19)
  (fun (gs_5 : Value) (k_6 : Value) (w43 : World) => 
  JoinP 2 (fun (k21 : N2) =>
    LoopP 2 (fun (k22 : N2) => (fun (t2 : Value) (k_9 : Value) (w44 : World) => 
      Run Tryd.prog (Builtin.len_ #[58] 3 #[ls_0]) w44 fun t68 w45 =>
      Run Tryd.prog (binSem Go.BinOp.lss 3 (Go.Operand.tmp 66) (Go.Operand.tmp 68) k_9 t68) w45 fun t69 w46 =>
      CondP t69 0 (fun (k23 : N0) =>
        k23 w46)
      (fun (k24 : N0) =>
        k21 t2 k_9 w46)
      (fun (w47 : World) => 
      JoinP 1 (fun (k25 : N1) =>
        JoinP 2 (fun (k26 : N2) =>
          LoopP 2 (fun (k27 : N2) => (fun (t2 : Value) (i_10 : Value) (w48 : World) => 
            Run Tryd.prog (Instr.indexAt 58 gs_5 k_9) w48 fun t75 w49 =>
            Run Tryd.prog (Instr.loadAt 154 t75) w49 fun t76 w50 =>
            Run Tryd.prog (Builtin.len_ #[154] 3 #[t76]) w50 fun t77 w51 =>
            Run Tryd.prog (binSem Go.BinOp.lss 3 (Go.Operand.tmp 72) (Go.Operand.tmp 77) i_10 t77) w51 fun t78 w52 =>
            CondP t78 0 (fun (k28 : N0) =>
              k28 w52)
            (fun (k29 : N0) =>
              k26 t2 i_10 w52)
            (fun (w53 : World) => 
            JoinP 1 (fun (k30 : N1) =>
              GoN Tryd.prog (callFunc 64 #[k_9, i_10]) w53 fun t83 w54 =>
              Run Tryd.prog (Instr.alloc 156 true (.tuple #[])) w54 fun want_11 w55 =>
              RunU Tryd.prog (Instr.storeAt 156 want_11 t83) w55 fun w56 =>
              ∀ w57, Ext w56 w57 →
              RunQ Tryd.prog (Instr.indexAt 58 gs_5 k_9) w57 fun t86 =>
              RunQ Tryd.prog (Instr.loadAt 154 t86) w57 fun t87 =>
              RunQ Tryd.prog (Instr.indexAt 154 t87 i_10) w57 fun t89 =>
              RunQ Tryd.prog (Instr.loadAt 156 t89) w57 fun t90 =>
              RunQ Tryd.prog (Instr.loadAt 156 want_11) w57 fun t91 =>
              RunQ Tryd.prog (binSem Go.BinOp.neq 156 (Go.Operand.tmp 90) (Go.Operand.tmp 91) t90 t91) w57 fun t92 =>
              GuardQ t92 false (fun (k31 : Value → Prop) => k31 i_10) fun t94 =>
              GuardQ t92 false (fun (k32 : Value → Prop) => k32 ls_0) fun t95 =>
              GuardQ t92 false (fun (k33 : Value → Prop) => k33 k_9) fun t96 =>
              GuardQ t92 false (fun (k34 : Value → Prop) => RunQ Tryd.prog (Instr.indexAt 58 t95 t96) w57 k34) fun t97 =>
              GuardQ t92 false (fun (k35 : Value → Prop) => RunQ Tryd.prog (Instr.loadAt 154 t97) w57 k35) fun t98 =>
              GuardQ t92 false (fun (k36 : Value → Prop) => RunQ Tryd.prog (Builtin.len_ #[154] 3 #[t98]) w57 k36) fun t99 =>
              GuardQ t92 false (fun (k37 : Value → Prop) => RunQ Tryd.prog (binSem Go.BinOp.lss 3 (Go.Operand.tmp 94) (Go.Operand.tmp 99) t94 t99) w57 k37) fun t100 =>
              GuardQ t92 false (fun (k38 : Value → Prop) => k38 t100) fun t101 =>
              GuardQ t101 true (fun (k39 : Value → Prop) => k39 ls_0) fun t102 =>
              GuardQ t101 true (fun (k40 : Value → Prop) => k40 k_9) fun t103 =>
              GuardQ t101 true (fun (k41 : Value → Prop) => RunQ Tryd.prog (Instr.indexAt 58 t102 t103) w57 k41) fun t104 =>
              GuardQ t101 true (fun (k42 : Value → Prop) => RunQ Tryd.prog (Instr.loadAt 154 t104) w57 k42) fun t105 =>
              GuardQ t101 true (fun (k43 : Value → Prop) => k43 i_10) fun t106 =>
              GuardQ t101 true (fun (k44 : Value → Prop) => RunQ Tryd.prog (Instr.indexAt 154 t105 t106) w57 k44) fun t107 =>
              GuardQ t101 true (fun (k45 : Value → Prop) => RunQ Tryd.prog (Instr.loadAt 156 t107) w57 k45) fun t108 =>
              GuardQ t101 true (fun (k46 : Value → Prop) => RunQ Tryd.prog (Instr.loadAt 156 want_11) w57 k46) fun t109 =>
              GuardQ t101 true (fun (k47 : Value → Prop) => RunQ Tryd.prog (binSem Go.BinOp.neq 156 (Go.Operand.tmp 108) (Go.Operand.tmp 109) t108 t109) w57 k47) fun t110 =>
              GuardQ t92 false (fun (k48 : Value → Prop) => PickQ t101 t110 (Go.Value.bool false) k48) fun t111 =>
              PickQ t92 (Go.Value.bool true) t111 fun t112 =>
              CondP t112 1 (fun (k49 : N1) =>
                R (Go.Value.bool false) w57)
              (fun (k50 : N1) =>
                k50 t2 w57)
              (fun (t2 : Value) (w58 : World) => 
              k30 t2 w58))
            (fun (t2 : Value) (w59 : World) => 
            Run Tryd.prog (binSem Go.BinOp.add 3 (Go.Operand.tmp 79) (Go.Operand.const (Go.Value.int Go.IntKind.i64 1)) i_10 (Go.Value.int Go.IntKind.i64 1)) w59 fun t80 w60 =>
            k27 t2 t80 w60))))
          [t2, (Go.Value.int Go.IntKind.i64 0)] w47)
        (fun (t2 : Value) (i_10 : Value) (w61 : World) => 
        k25 t2 w61))
      (fun (t2 : Value) (w62 : World) => 
      Run Tryd.prog (binSem Go.BinOp.add 3 (Go.Operand.tmp 70) (Go.Operand.const (Go.Value.int Go.IntKind.i64 1)) k_9 (Go.Value.int Go.IntKind.i64 1)) w62 fun t71 w63 =>
      k22 t2 t71 w63))))
    [(Go.Value.bool false), (Go.Value.int Go.IntKind.i64 0)] w43)
  (fun (t2 : Value) (k_9 : Value) (w64 : World) => 
  R (Go.Value.bool true) w64)))
theorem S38_eq (ls_0 : Value) (w : World) (R : Value → World → Prop) : vcFn Tryd.prog Tryd.f38 [ls_0] w R = S38 ls_0 w R := by kernel_rfl
theorem D38 {ls_0 : Value} {w : World} {R : Value → World → Prop} (h : S38 ls_0 w R) : Does Tryd.prog 38 [ls_0] w R :=
  does_of_vc mixed Tryd.func38 (by kernel_rfl) (by kernel_rfl) ((S38_eq ls_0 w R).mpr h)

/-- busbar/busbarkit.ApartValues -/
def S39 (ls_0 : Value) (w : World) (R : Value → World → Prop) : Prop :=
  JoinP 1 (fun (k1 : N1) =>
    LoopP 1 (fun (k2 : N1) => (fun (k_3 : Value) (w1 : World) => 
      Run Tryd.prog (Builtin.len_ #[59] 3 #[ls_0]) w1 fun t14 w2 =>
      Run Tryd.prog (binSem Go.BinOp.lss 3 (Go.Operand.tmp 12) (Go.Operand.tmp 14) k_3 t14) w2 fun t15 w3 =>
      CondP t15 0 (fun (k3 : N0) =>
        k3 w3)
      (fun (k4 : N0) =>
        k1 k_3 w3)
      (fun (w4 : World) => 
      JoinP 0 (fun (k5 : N0) =>
        JoinP 1 (fun (k6 : N1) =>
          LoopP 1 (fun (k7 : N1) => (fun (i_4 : Value) (w5 : World) => 
            Run Tryd.prog (Instr.indexAt 59 ls_0 k_3) w5 fun t21 w6 =>
            Run Tryd.prog (Instr.loadAt 158 t21) w6 fun t22 w7 =>
            Run Tryd.prog (Builtin.len_ #[158] 3 #[t22]) w7 fun t23 w8 =>
            Run Tryd.prog (binSem Go.BinOp.lss 3 (Go.Operand.tmp 18) (Go.Operand.tmp 23) i_4 t23) w8 fun t24 w9 =>
            CondP t24 0 (fun (k8 : N0) =>
              k8 w9)
            (fun (k9 : N0) =>
              k6 i_4 w9)
            (fun (w10 : World) => 
            JoinP 0 (fun (k10 : N0) =>
              ∀ w11, Ext w10 w11 →
              RunQ Tryd.prog (Instr.indexAt 59 ls_0 k_3) w11 fun t29 =>
              RunQ Tryd.prog (Instr.loadAt 158 t29) w11 fun t30 =>
              GoN Tryd.prog (callFunc 65 #[k_3, i_4]) w11 fun t34 w12 => Ext w11 w12 ∧
              RunQ Tryd.prog (Instr.indexAt 158 t30 i_4) w11 fun t35 =>
              RunU Tryd.prog (Instr.storeAt 160 t35 t34) w12 fun w13 =>
              k10 w13)
            (fun (w14 : World) => 
            Run Tryd.prog (binSem Go.BinOp.add 3 (Go.Operand.tmp 25) (Go.Operand.const (Go.Value.int Go.IntKind.i64 1)) i_4 (Go.Value.int Go.IntKind.i64 1)) w14 fun t26 w15 =>
            k7 t26 w15))))
          [(Go.Value.int Go.IntKind.i64 0)] w4)
        (fun (i_4 : Value) (w16 : World) => 
        k5 w16))
      (fun (w17 : World) => 
      Run Tryd.prog (binSem Go.BinOp.add 3 (Go.Operand.tmp 16) (Go.Operand.const (Go.Value.int Go.IntKind.i64 1)) k_3 (Go.Value.int Go.IntKind.i64 1)) w17 fun t17 w18 =>
      k2 t17 w18))))
    [(Go.Value.int Go.IntKind.i64 0)] w)
  (fun (k_3 : Value) (w19 : World) => 
  JoinP 2 (fun (k11 : N2) =>
    LoopP 2 (fun (k12 : N2) => (fun (gs_5 : Value) (k_6 : Value) (w20 : World) => 
      Run Tryd.prog (Builtin.len_ #[59] 3 #[ls_0]) w20 fun t38 w21 =>
      Run Tryd.prog (binSem Go.BinOp.lss 3 (Go.Operand.tmp 36) (Go.Operand.tmp 38) k_6 t38) w21 fun t39 w22 =>
      CondP t39 0 (fun (k13 : N0) =>
        k13 w22)
      (fun (k14 : N0) =>
        k11 gs_5 k_6 w22)
      (fun (w23 : World) => 
      JoinP 1 (fun (k15 : N1) =>
        Run Tryd.prog (Instr.indexAt 59 ls_0 k_6) w23 fun t44 w24 =>
        Run Tryd.prog (Instr.loadAt 158 t44) w24 fun t45 w25 =>
        JoinP 2 (fun (k16 : N2) =>
          LoopP 2 (fun (k17 : N2) => (fun (g_7 : Value) (i_8 : Value) (w26 : World) => 
            Run Tryd.prog (binSem Go.BinOp.lss 3 (Go.Operand.tmp 46) (Go.Operand.const (Go.Value.int Go.IntKind.i64 64)) i_8 (Go.Value.int Go.IntKind.i64 64)) w26 fun t47 w27 =>
            CondP t47 0 (fun (k18 : N0) =>
              k18 w27)
            (fun (k19 : N0) =>
              k16 g_7 i_8 w27)
            (fun (w28 : World) => 
            JoinP 1 (fun (k20 : N1) =>
              Run Tryd.prog (Instr.indexAt 59 ls_0 k_6) w28 fun t54 w29 =>
              Run Tryd.prog (Instr.loadAt 158 t54) w29 fun t55 w30 =>
              Run Tryd.prog (Builtin.len_ #[158] 3 #[t55]) w30 fun t56 w31 =>
              Run Tryd.prog (binSem Go.BinOp.add 3 (Go.Operand.tmp 56) (Go.Operand.tmp 57) t56 i_8) w31 fun t58 w32 =>
              GoN Tryd.prog (callFunc 65 #[k_6, t58]) w32 fun t59 w33 =>
              Run Tryd.prog (Instr.buildSlice 158 1 #[(0, t59)]) w33 fun t60 w34 =>
              Run Tryd.prog (Builtin.append_ #[158, 158] 158 #[g_7, t60]) w34 fun t61 w35 =>
              k20 t61 w35)
            (fun (g_7 : Value) (w36 : World) => 
            Run Tryd.prog (binSem Go.BinOp.add 3 (Go.Operand.tmp 48) (Go.Operand.const (Go.Value.int Go.IntKind.i64 1)) i_8 (Go.Value.int Go.IntKind.i64 1)) w36 fun t49 w37 =>
            k17 g_7 t49 w37))))
          [t45, (Go.Value.int Go.IntKind.i64 0)] w25)
        (fun (g_7 : Value) (i_8 : Value) (w38 : World) => 
        Run Tryd.prog (Instr.buildSlice 59 1 #[(0, g_7)]) w38 fun t64 w39 =>
        Run Tryd.prog (Builtin.append_ #[59, 59] 59 #[gs_5, t64]) w39 fun t65 w40 =>
        k15 t65 w40))
      (fun (gs_5 : Value) (w41 : World) => 
      Run Tryd.prog (binSem Go.BinOp.add 3 (Go.Operand.tmp 40) (Go.Operand.const (Go.Value.int Go.IntKind.i64 1)) k_6 (Go.Value.int Go.IntKind.i64 1)) w41 fun t41 w42 =>
      k12 gs_5 t41 w42))))
    [(Go.Value.slice none 0 0), (Go.Value.int Go.IntKind.i64 0)] w19)
  (fun (gs_5 : Value) (k_6 : Value) (w43 : World) => 
  JoinP 2 (fun (k21 : N2) =>
    LoopP 2 (fun (k22 : N2) => (fun (t2 : Value) (k_9 : Value) (w44 : World) => 
      Run Tryd.prog (Builtin.len_ #[59] 3 #[ls_0]) w44 fun t68 w45 =>
      Run Tryd.prog (binSem Go.BinOp.lss 3 (Go.Operand.tmp 66) (Go.Operand.tmp 68) k_9 t68) w45 fun t69 w46 =>
      CondP t69 0 (fun (k23 : N0) =>
        k23 w46)
      (fun (k24 : N0) =>
        k21 t2 k_9 w46)
      (fun (w47 : World) => 
      JoinP 1 (fun (k25 : N1) =>
        JoinP 2 (fun (k26 : N2) =>
          LoopP 2 (fun (k27 : N2) => (fun (t2 : Value) (i_10 : Value) (w48 : World) => 
            Run Tryd.prog (Instr.indexAt 59 gs_5 k_9) w48 fun t75 w49 =>
            Run Tryd.prog (Instr.loadAt 158 t75) w49 fun t76 w50 =>
            Run Tryd.prog (Builtin.len_ #[158] 3 #[t76]) w50 fun t77 w51 =>
            Run Tryd.prog (binSem Go.BinOp.lss 3 (Go.Operand.tmp 72) (Go.Operand.tmp 77) i_10 t77) w51 fun t78 w52 =>
            CondP t78 0 (fun (k28 : N0) =>
              k28 w52)
            (fun (k29 : N0) =>
              k26 t2 i_10 w52)
            (fun (w53 : World) => 
            JoinP 1 (fun (k30 : N1) =>
              GoN Tryd.prog (callFunc 65 #[k_9, i_10]) w53 fun t83 w54 =>
              Run Tryd.prog (Instr.alloc 160 true (.tuple #[])) w54 fun want_11 w55 =>
              RunU Tryd.prog (Instr.storeAt 160 want_11 t83) w55 fun w56 =>
              ∀ w57, Ext w56 w57 →
              RunQ Tryd.prog (Instr.indexAt 59 gs_5 k_9) w57 fun t86 =>
              RunQ Tryd.prog (Instr.loadAt 158 t86) w57 fun t87 =>
              RunQ Tryd.prog (Instr.indexAt 158 t87 i_10) w57 fun t89 =>
              RunQ Tryd.prog (Instr.loadAt 160 t89) w57 fun t90 =>
              RunQ Tryd.prog (Instr.loadAt 160 want_11) w57 fun t91 =>
              RunQ Tryd.prog (binSem Go.BinOp.neq 160 (Go.Operand.tmp 90) (Go.Operand.tmp 91) t90 t91) w57 fun t92 =>
              GuardQ t92 false (fun (k31 : Value → Prop) => k31 i_10) fun t94 =>
              GuardQ t92 false (fun (k32 : Value → Prop) => k32 ls_0) fun t95 =>
              GuardQ t92 false (fun (k33 : Value → Prop) => k33 k_9) fun t96 =>
              GuardQ t92 false (fun (k34 : Value → Prop) => RunQ Tryd.prog (Instr.indexAt 59 t95 t96) w57 k34) fun t97 =>
              GuardQ t92 false (fun (k35 : Value → Prop) => RunQ Tryd.prog (Instr.loadAt 158 t97) w57 k35) fun t98 =>
              GuardQ t92 false (fun (k36 : Value → Prop) => RunQ Tryd.prog (Builtin.len_ #[158] 3 #[t98]) w57 k36) fun t99 =>
              GuardQ t92 false (fun (k37 : Value → Prop) => RunQ Tryd.prog (binSem Go.BinOp.lss 3 (Go.Operand.tmp 94) (Go.Operand.tmp 99) t94 t99) w57 k37) fun t100 =>
              GuardQ t92 false (fun (k38 : Value → Prop) => k38 t100) fun t101 =>
              GuardQ t101 true (fun (k39 : Value → Prop) => k39 ls_0) fun t102 =>
              GuardQ t101 true (fun (k40 : Value → Prop) => k40 k_9) fun t103 =>
              GuardQ t101 true (fun (k41 : Value → Prop) => RunQ Tryd.prog (Instr.indexAt 59 t102 t103) w57 k41) fun t104 =>
              GuardQ t101 true (fun (k42 : Value → Prop) => RunQ Tryd.prog (Instr.loadAt 158 t104) w57 k42) fun t105 =>
              GuardQ t101 true (fun (k43 : Value → Prop) => k43 i_10) fun t106 =>
              GuardQ t101 true (fun (k44 : Value → Prop) => RunQ Tryd.prog (Instr.indexAt 158 t105 t106) w57 k44) fun t107 =>
              GuardQ t101 true (fun (k45 : Value → Prop) => RunQ Tryd.prog (Instr.loadAt 160 t107) w57 k45) fun t108 =>
              GuardQ t101 true (fun (k46 : Value → Prop) => RunQ Tryd.prog (Instr.loadAt 160 want_11) w57 k46) fun t109 =>
              GuardQ t101 true (fun (k47 : Value → Prop) => RunQ Tryd.prog (binSem Go.BinOp.neq 160 (Go.Operand.tmp 108) (Go.Operand.tmp 109) t108 t109) w57 k47) fun t110 =>
              GuardQ t92 false (fun (k48 : Value → Prop) => PickQ t101 t110 (Go.Value.bool false) k48) fun t111 =>
              PickQ t92 (Go.Value.bool true) t111 fun t112 =>
              CondP t112 1 (fun (k49 : N1) =>
                R (Go.Value.bool false) w57)
              (fun (k50 : N1) =>
                k50 t2 w57)
              (fun (t2 : Value) (w58 : World) => 
              k30 t2 w58))
            (fun (t2 : Value) (w59 : World) => 
            Run Tryd.prog (binSem Go.BinOp.add 3 (Go.Operand.tmp 79) (Go.Operand.const (Go.Value.int Go.IntKind.i64 1)) i_10 (Go.Value.int Go.IntKind.i64 1)) w59 fun t80 w60 =>
            k27 t2 t80 w60))))
          [t2, (Go.Value.int Go.IntKind.i64 0)] w47)
        (fun (t2 : Value) (i_10 : Value) (w61 : World) => 
        k25 t2 w61))
      (fun (t2 : Value) (w62 : World) => 
      Run Tryd.prog (binSem Go.BinOp.add 3 (Go.Operand.tmp 70) (Go.Operand.const (Go.Value.int Go.IntKind.i64 1)) k_9 (Go.Value.int Go.IntKind.i64 1)) w62 fun t71 w63 =>
      k22 t2 t71 w63))))
    [(Go.Value.bool false), (Go.Value.int Go.IntKind.i64 0)] w43)
  (fun (t2 : Value) (k_9 : Value) (w64 : World) => 
  R (Go.Value.bool true) w64)))
theorem S39_eq (ls_0 : Value) (w : World) (R : Value → World → Prop) : vcFn Tryd.prog Tryd.f39 [ls_0] w R = S39 ls_0 w R := by kernel_rfl
theorem D39 {ls_0 : Value} {w : World} {R : Value → World → Prop} (h : S39 ls_0 w R) : Does Tryd.prog 39 [ls_0] w R :=
  does_of_vc mixed Tryd.func39 (by kernel_rfl) (by kernel_rfl) ((S39_eq ls_0 w R).mpr h)

/-- busbar/busbarkit.ApartBools -/
def S40 (ls_0 : Value) (w : World) (R : Value → World → Prop) : Prop :=
  JoinP 2 (fun (k1 : N2) =>
    LoopP 2 (fun (k2 : N2) => (fun (gs_3 : Value) (k_4 : Value) (w1 : World) => 
      Run Tryd.prog (Builtin.len_ #[60] 3 #[ls_0]) w1 fun t18 w2 =>
      Run Tryd.prog (binSem Go.BinOp.lss 3 (Go.Operand.tmp 16) (Go.Operand.tmp 18) k_4 t18) w2 fun t19 w3 =>
      CondP t19 0 (fun (k3 : N0) =>
        k3 w3)
      (fun (k4 : N0) =>
        k1 gs_3 k_4 w3)
      (fun (w4 : World) => 
      JoinP 1 (fun (k5 : N1) =>
        Run Tryd.prog (Instr.indexAt 60 ls_0 k_4) w4 fun t24 w5 =>
        Run Tryd.prog (Instr.loadAt 162 t24) w5 fun t25 w6 =>
        JoinP 2 (fun (k6 : N2) =>
          LoopP 2 (fun (k7 : N2) => (fun (g_5 : Value) (i_6 : Value) (w7 : World) => 
            Run Tryd.prog (binSem Go.BinOp.lss 3 (Go.Operand.tmp 26) (Go.Operand.const (Go.Value.int Go.IntKind.i64 64)) i_6 (Go.Value.int Go.IntKind.i64 64)) w7 fun t27 w8 =>
            CondP t27 0 (fun (k8 : N0) =>
              k8 w8)
            (fun (k9 : N0) =>
              k6 g_5 i_6 w8)
            (fun (w9 : World) => 
            JoinP 1 (fun (k10 : N1) =>
              Run Tryd.prog (binSem Go.BinOp.rem 3 (Go.Operand.tmp 31) (Go.Operand.const (Go.Value.int Go.IntKind.i64 2)) i_6 (Go.Value.int Go.IntKind.i64 2)) w9 fun t32 w10 =>
              Run Tryd.prog (binSem Go.BinOp.eql 3 (Go.Operand.tmp 32) (Go.Operand.const (Go.Value.int Go.IntKind.i64 0)) t32 (Go.Value.int Go.IntKind.i64 0)) w10 fun t33 w11 =>
              Run Tryd.prog (Instr.buildSlice 162 1 #[(0, t33)]) w11 fun t34 w12 =>
              Run Tryd.prog (Builtin.append_ #[162, 162] 162 #[g_5, t34]) w12 fun t35 w13 =>
              k10 t35 w13)
            (fun (g_5 : Value) (w14 : World) => 
            Run Tryd.prog (binSem Go.BinOp.add 3 (Go.Operand.tmp 28) (Go.Operand.const (Go.Value.int Go.IntKind.i64 1)) i_6 (Go.Value.int Go.IntKind.i64 1)) w14 fun t29 w15 =>
            k7 g_5 t29 w15))))
          [t25, (Go.Value.int Go.IntKind.i64 0)] w6)
        (fun (g_5 : Value) (i_6 : Value) (w16 : World) => 
        Run Tryd.prog (Instr.buildSlice 60 1 #[(0, g_5)]) w16 fun t38 w17 =>
        Run Tryd.prog (Builtin.append_ #[60, 60] 60 #[gs_3, t38]) w17 fun t39 w18 =>
        k5 t39 w18))
      (fun (gs_3 : Value) (w19 : World) => 
      Run Tryd.prog (binSem Go.BinOp.add 3 (Go.Operand.tmp 20) (Go.Operand.const (Go.Value.int Go.IntKind.i64 1)) k_4 (Go.Value.int Go.IntKind.i64 1)) w19 fun t21 w20 =>
      k2 gs_3 t21 w20))))
    [(Go.Value.slice none 0 0), (Go.Value.int Go.IntKind.i64 0)] w)
  (fun (gs_3 : Value) (k_4 : Value) (w21 : World) => 
  JoinP 2 (fun (k11 : N2) =>
    LoopP 2 (fun (k12 : N2) => (fun (t2 : Value) (k_7 : Value) (w22 : World) => 
      Run Tryd.prog (Builtin.len_ #[60] 3 #[gs_3]) w22 fun t42 w23 =>
      Run Tryd.prog (binSem Go.BinOp.lss 3 (Go.Operand.tmp 40) (Go.Operand.tmp 42) k_7 t42) w23 fun t43 w24 =>
      CondP t43 0 (fun (k13 : N0) =>
        k13 w24)
      (fun (k14 : N0) =>
        k11 t2 k_7 w24)
      (fun (w25 : World) => 
      JoinP 1 (fun (k15 : N1) =>
        JoinP 2 (fun (k16 : N2) =>
          LoopP 2 (fun (k17 : N2) => (fun (was_8 : Value) (j_9 : Value) (w26 : World) => 
            Run Tryd.prog (Builtin.len_ #[60] 3 #[gs_3]) w26 fun t48 w27 =>
            Run Tryd.prog (binSem Go.BinOp.lss 3 (Go.Operand.tmp 46) (Go.Operand.tmp 48) j_9 t48) w27 fun t49 w28 =>
            CondP t49 0 (fun (k18 : N0) =>
              k18 w28)
            (fun (k19 : N0) =>
              k16 was_8 j_9 w28)
            (fun (w29 : World) => 
            JoinP 1 (fun (k20 : N1) =>
              JoinP 2 (fun (k21 : N2) =>
                LoopP 2 (fun (k22 : N2) => (fun (c_10 : Value) (i_11 : Value) (w30 : World) => 
                  Run Tryd.prog (Instr.indexAt 60 gs_3 j_9) w30 fun t55 w31 =>
                  Run Tryd.prog (Instr.loadAt 162 t55) w31 fun t56 w32 =>
                  Run Tryd.prog (Builtin.len_ #[162] 3 #[t56]) w32 fun t57 w33 =>
                  Run Tryd.prog (binSem Go.BinOp.lss 3 (Go.Operand.tmp 52) (Go.Operand.tmp 57) i_11 t57) w33 fun t58 w34 =>
                  CondP t58 0 (fun (k23 : N0) =>
                    k23 w34)
                  (fun (k24 : N0) =>
                    k21 c_10 i_11 w34)
                  (fun (w35 : World) => 
                  JoinP 1 (fun (k25 : N1) =>
                    Run Tryd.prog (Instr.indexAt 60 gs_3 j_9) w35 fun t64 w36 =>
                    Run Tryd.prog (Instr.loadAt 162 t64) w36 fun t65 w37 =>
                    Run Tryd.prog (Instr.indexAt 162 t65 i_11) w37 fun t67 w38 =>
                    Run Tryd.prog (Instr.loadAt 4 t67) w38 fun t68 w39 =>
                    Run Tryd.prog (Instr.buildSlice 162 1 #[(0, t68)]) w39 fun t69 w40 =>
                    Run Tryd.prog (Builtin.append_ #[162, 162] 162 #[c_10, t69]) w40 fun t70 w41 =>
                    k25 t70 w41)
                  (fun (c_10 : Value) (w42 : World) => 
                  Run Tryd.prog (binSem Go.BinOp.add 3 (Go.Operand.tmp 59) (Go.Operand.const (Go.Value.int Go.IntKind.i64 1)) i_11 (Go.Value.int Go.IntKind.i64 1)) w42 fun t60 w43 =>
                  k22 c_10 t60 w43))))
                [(Go.Value.slice none 0 0), (Go.Value.int Go.IntKind.i64 0)] w29)
              (fun (c_10 : Value) (i_11 : Value) (w44 : World) => 
              Run Tryd.prog (Instr.buildSlice 60 1 #[(0, c_10)]) w44 fun t73 w45 =>
              Run Tryd.prog (Builtin.append_ #[60, 60] 60 #[was_8, t73]) w45 fun t74 w46 =>
              k20 t74 w46))
            (fun (was_8 : Value) (w47 : World) => 
            Run Tryd.prog (binSem Go.BinOp.add 3 (Go.Operand.tmp 50) (Go.Operand.const (Go.Value.int Go.IntKind.i64 1)) j_9 (Go.Value.int Go.IntKind.i64 1)) w47 fun t51 w48 =>
            k17 was_8 t51 w48))))
          [(Go.Value.slice none 0 0), (Go.Value.int Go.IntKind.i64 0)] w25)
        (fun (was_8 : Value) (j_9 : Value) (w49 : World) => 
        JoinP 1 (fun (k26 : N1) =>
          LoopP 1 (fun (k27 : N1) => (fun (i_12 : Value) (w50 : World) => 
            Run Tryd.prog (Instr.indexAt 60 ls_0 k_7) w50 fun t78 w51 =>
            Run Tryd.prog (Instr.loadAt 162 t78) w51 fun t79 w52 =>
            Run Tryd.prog (Builtin.len_ #[162] 3 #[t79]) w52 fun t80 w53 =>
            Run Tryd.prog (binSem Go.BinOp.lss 3 (Go.Operand.tmp 75) (Go.Operand.tmp 80) i_12 t80) w53 fun t81 w54 =>
            CondP t81 0 (fun (k28 : N0) =>
              k28 w54)
            (fun (k29 : N0) =>
              k26 i_12 w54)
            (fun (w55 : World) => 
            JoinP 0 (fun (k30 : N0) =>
              ∀ w56, Ext w55 w56 →
              RunQ Tryd.prog (Instr.indexAt 60 ls_0 k_7) w56 fun t86 =>
              RunQ Tryd.prog (Instr.loadAt 162 t86) w56 fun t87 =>
              RunQ Tryd.prog (Instr.indexAt 60 ls_0 k_7) w56 fun t91 =>
              RunQ Tryd.prog (Instr.loadAt 162 t91) w56 fun t92 =>
              RunQ Tryd.prog (Instr.indexAt 162 t92 i_12) w56 fun t94 =>
              RunQ Tryd.prog (Instr.loadAt 4 t94) w56 fun t95 =>
              RunQ Tryd.prog (Op.unary Go.UnOp.not t95) w56 fun t96 =>
              RunQ Tryd.prog (Instr.indexAt 162 t87 i_12) w56 fun t97 =>
              RunU Tryd.prog (Instr.storeAt 4 t97 t96) w56 fun w57 =>
              k30 w57)
            (fun (w58 : World) => 
            Run Tryd.prog (binSem Go.BinOp.add 3 (Go.Operand.tmp 82) (Go.Operand.const (Go.Value.int Go.IntKind.i64 1)) i_12 (Go.Value.int Go.IntKind.i64 1)) w58 fun t83 w59 =>
            k27 t83 w59))))
          [(Go.Value.int Go.IntKind.i64 0)] w49)
        (fun (i_12 : Value) (w60 : World) => 
        JoinP 1 (fun (k31 : N1) =>
          LoopP 1 (fun (k32 : N1) => (fun (i_13 : Value) (w61 : World) => 
            Run Tryd.prog (Instr.indexAt 60 gs_3 k_7) w61 fun t101 w62 =>
            Run Tryd.prog (Instr.loadAt 162 t101) w62 fun t102 w63 =>
            Run Tryd.prog (Builtin.len_ #[162] 3 #[t102]) w63 fun t103 w64 =>
            Run Tryd.prog (binSem Go.BinOp.lss 3 (Go.Operand.tmp 98) (Go.Operand.tmp 103) i_13 t103) w64 fun t104 w65 =>
            CondP t104 0 (fun (k33 : N0) =>
              k33 w65)
            (fun (k34 : N0) =>
              k31 i_13 w65)
            (fun (w66 : World) => 
            JoinP 0 (fun (k35 : N0) =>
              ∀ w67, Ext w66 w67 →
              RunQ Tryd.prog (Instr.indexAt 60 ls_0 k_7) w67 fun t110 =>
              RunQ Tryd.prog (Instr.loadAt 162 t110) w67 fun t111 =>
              RunQ Tryd.prog (Builtin.len_ #[162] 3 #[t111]) w67 fun t112 =>
              RunQ Tryd.prog (binSem Go.BinOp.geq 3 (Go.Operand.tmp 107) (Go.Operand.tmp 112) i_13 t112) w67 fun t113 =>
              GuardQ t113 false (fun (k36 : Value → Prop) => k36 gs_3) fun t115 =>
              GuardQ t113 false (fun (k37 : Value → Prop) => k37 k_7) fun t116 =>
              GuardQ t113 false (fun (k38 : Value → Prop) => RunQ Tryd.prog (Instr.indexAt 60 t115 t116) w67 k38) fun t117 =>
              GuardQ t113 false (fun (k39 : Value → Prop) => RunQ Tryd.prog (Instr.loadAt 162 t117) w67 k39) fun t118 =>
              GuardQ t113 false (fun (k40 : Value → Prop) => k40 i_13) fun t119 =>
              GuardQ t113 false (fun (k41 : Value → Prop) => RunQ Tryd.prog (Instr.indexAt 162 t118 t119) w67 k41) fun t120 =>
              GuardQ t113 false (fun (k42 : Value → Prop) => RunQ Tryd.prog (Instr.loadAt 4 t120) w67 k42) fun t121 =>
              GuardQ t113 false (fun (k43 : Value → Prop) => k43 was_8) fun t122 =>
              GuardQ t113 false (fun (k44 : Value → Prop) => k44 k_7) fun t123 =>
              GuardQ t113 false (fun (k45 : Value → Prop) => RunQ Tryd.prog (Instr.indexAt 60 t122 t123) w67 k45) fun t124 =>
              GuardQ t113 false (fun (k46 : Value → Prop) => RunQ Tryd.prog (Instr.loadAt 162 t124) w67 k46) fun t125 =>
              GuardQ t113 false (fun (k47 : Value → Prop) => k47 i_13) fun t126 =>
              GuardQ t113 false (fun (k48 : Value → Prop) => RunQ Tryd.prog (Instr.indexAt 162 t125 t126) w67 k48) fun t127 =>
              GuardQ t113 false (fun (k49 : Value → Prop) => RunQ Tryd.prog (Instr.loadAt 4 t127) w67 k49) fun t128 =>
              GuardQ t113 false (fun (k50 : Value → Prop) => RunQ Tryd.prog (binSem Go.BinOp.eql 4 (Go.Operand.tmp 121) (Go.Operand.tmp 128) t121 t128) w67 k50) fun t129 =>
              PickQ t113 (Go.Value.bool true) t129 fun t130 =>
              CondP t130 0 (fun (k51 : N0) =>
                ∀ w68, Ext w67 w68 →
                RunQ Tryd.prog (Instr.indexAt 60 gs_3 k_7) w68 fun t133 =>
                RunQ Tryd.prog (Instr.loadAt 162 t133) w68 fun t134 =>
                RunQ Tryd.prog (Instr.indexAt 60 gs_3 k_7) w68 fun t138 =>
                RunQ Tryd.prog (Instr.loadAt 162 t138) w68 fun t139 =>
                RunQ Tryd.prog (Instr.indexAt 162 t139 i_13) w68 fun t141 =>
                RunQ Tryd.prog (Instr.loadAt 4 t141) w68 fun t142 =>
                RunQ Tryd.prog (Op.unary Go.UnOp.not t142) w68 fun t143 =>
                RunQ Tryd.prog (Instr.indexAt 162 t134 i_13) w68 fun t144 =>
                RunU Tryd.prog (Instr.storeAt 4 t144 t143) w68 fun w69 =>
                k51 w69)
              (fun (k52 : N0) =>
                k52 w67)
              (fun (w70 : World) => 
              k35 w70))
            (fun (w71 : World) => 
            Run Tryd.prog (binSem Go.BinOp.add 3 (Go.Operand.tmp 105) (Go.Operand.const (Go.Value.int Go.IntKind.i64 1)) i_13 (Go.Value.int Go.IntKind.i64 1)) w71 fun t106 w72 =>
            k32 t106 w72))))
          [(Go.Value.int Go.IntKind.i64 0)] w60)
        (fun (i_13 : Value) (w73 : World) => 
        JoinP 2 (fun (k53 : N2) =>
          LoopP 2 (fun (k54 : N2) => (fun (t2 : Value) (j_14 : Value) (w74 : World) => 
            Run Tryd.prog (Builtin.len_ #[60] 3 #[gs_3]) w74 fun t147 w75 =>
            Run Tryd.prog (binSem Go.BinOp.lss 3 (Go.Operand.tmp 145) (Go.Operand.tmp 147) j_14 t147) w75 fun t148 w76 =>
            CondP t148 0 (fun (k55 : N0) =>
              k55 w76)
            (fun (k56 : N0) =>
              k53 t2 j_14 w76)
            (fun (w77 : World) => 
            JoinP 1 (fun (k57 : N1) =>
              JoinP 2 (fun (k58 : N2) =>
                LoopP 2 (fun (k59 : N2) => (fun (t2 : Value) (i_15 : Value) (w78 : World) => 
                  Run Tryd.prog (Instr.indexAt 60 gs_3 j_14) w78 fun t154 w79 =>
                  Run Tryd.prog (Instr.loadAt 162 t154) w79 fun t155 w80 =>
                  Run Tryd.prog (Builtin.len_ #[162] 3 #[t155]) w80 fun t156 w81 =>
                  Run Tryd.prog (binSem Go.BinOp.lss 3 (Go.Operand.tmp 151) (Go.Operand.tmp 156) i_15 t156) w81 fun t157 w82 =>
                  CondP t157 0 (fun (k60 : N0) =>
                    k60 w82)
                  (fun (k61 : N0) =>
                    k58 t2 i_15 w82)
                  (fun (w83 : World) => 
                  JoinP 1 (fun (k62 : N1) =>
                    ∀ w84, Ext w83 w84 →
                    RunQ Tryd.prog (Instr.indexAt 60 gs_3 j_14) w84 fun t162 =>
                    RunQ Tryd.prog (Instr.loadAt 162 t162) w84 fun t163 =>
                    RunQ Tryd.prog (Instr.indexAt 162 t163 i_15) w84 fun t165 =>
                    RunQ Tryd.prog (Instr.loadAt 4 t165) w84 fun t166 =>
                    RunQ Tryd.prog (Instr.indexAt 60 was_8 j_14) w84 fun t169 =>
                    RunQ Tryd.prog (Instr.loadAt 162 t169) w84 fun t170 =>
                    RunQ Tryd.prog (Instr.indexAt 162 t170 i_15) w84 fun t172 =>
                    RunQ Tryd.prog (Instr.loadAt 4 t172) w84 fun t173 =>
                    RunQ Tryd.prog (binSem Go.BinOp.eql 4 (Go.Operand.tmp 166) (Go.Operand.tmp 173) t166 t173) w84 fun t174 =>
                    RunQ Tryd.prog (binSem Go.BinOp.neq 3 (Go.Operand.tmp 175) (Go.Operand.tmp 176) j_14 k_7) w84 fun t177 =>
                    RunQ Tryd.prog (binSem Go.BinOp.neq 4 (Go.Operand.tmp 174) (Go.Operand.tmp 177) t174 t177) w84 fun t178 =>
                    CondP t178 1 (fun (k63 : N1) =>
                      R (Go.Value.bool false) w84)
                    (fun (k64 : N1) =>
                      k64 t2 w84)
                    (fun (t2 : Value) (w85 : World) => 
                    k62 t2 w85))
                  (fun (t2 : Value) (w86 : World) => 
                  Run Tryd.prog (binSem Go.BinOp.add 3 (Go.Operand.tmp 158) (Go.Operand.const (Go.Value.int Go.IntKind.i64 1)) i_15 (Go.Value.int Go.IntKind.i64 1)) w86 fun t159 w87 =>
                  k59 t2 t159 w87))))
                [t2, (Go.Value.int Go.IntKind.i64 0)] w77)
              (fun (t2 : Value) (i_15 : Value) (w88 : World) => 
              k57 t2 w88))
            (fun (t2 : Value) (w89 : World) => 
            Run Tryd.prog (binSem Go.BinOp.add 3 (Go.Operand.tmp 149) (Go.Operand.const (Go.Value.int Go.IntKind.i64 1)) j_14 (Go.Value.int Go.IntKind.i64 1)) w89 fun t150 w90 =>
            k54 t2 t150 w90))))
          [t2, (Go.Value.int Go.IntKind.i64 0)] w73)
        (fun (t2 : Value) (j_14 : Value) (w91 : World) => 
        k15 t2 w91)))))
      (fun (t2 : Value) (w92 : World) => 
      Run Tryd.prog (binSem Go.BinOp.add 3 (Go.Operand.tmp 44) (Go.Operand.const (Go.Value.int Go.IntKind.i64 1)) k_7 (Go.Value.int Go.IntKind.i64 1)) w92 fun t45 w93 =>
      k12 t2 t45 w93))))
    [(Go.Value.bool false), (Go.Value.int Go.IntKind.i64 0)] w21)
  (fun (t2 : Value) (k_7 : Value) (w94 : World) => 
  R (Go.Value.bool true) w94))
theorem S40_eq (ls_0 : Value) (w : World) (R : Value → World → Prop) : vcFn Tryd.prog Tryd.f40 [ls_0] w R = S40 ls_0 w R := by kernel_rfl
theorem D40 {ls_0 : Value} {w : World} {R : Value → World → Prop} (h : S40 ls_0 w R) : Does Tryd.prog 40 [ls_0] w R :=
  does_of_vc mixed Tryd.func40 (by kernel_rfl) (by kernel_rfl) ((S40_eq ls_0 w R).mpr h)

end Go.Proofs.YtmgleeoecdodjaaDoor.Sh
