/- The conditions of functions, printed by a program off the loaded code and held against it by the kernel. Conditions: none. -/
import Derived.Test.YtmgleeoecdodjaaDoorV5
import Derived.Test.YtmgleeoecdodjaaDoorProg
set_option linter.unusedVariables false
set_option maxRecDepth 100000
namespace Go.Proofs.YtmgleeoecdodjaaDoor.Sh
open Go Go.V
theorem mixed : Tryd.prog.follows .mixedOrders = true := by kernel_rfl
/-- busbar/busbarkit.apartSignals -/
def S41 (ls_0 : Value) (w : World) (R : Value → World → Prop) : Prop :=
  JoinP 1 (fun (k1 : N1) =>
    LoopP 1 (fun (k2 : N1) => (fun (k_3 : Value) (w1 : World) => 
      Run Tryd.prog (Builtin.len_ #[61] 3 #[ls_0]) w1 fun t15 w2 =>
      Run Tryd.prog (binSem Go.BinOp.lss 3 (Go.Operand.tmp 13) (Go.Operand.tmp 15) k_3 t15) w2 fun t16 w3 =>
      CondP t16 0 (fun (k3 : N0) =>
        k3 w3)
      (fun (k4 : N0) =>
        k1 k_3 w3)
      (fun (w4 : World) => 
      JoinP 0 (fun (k5 : N0) =>
        JoinP 1 (fun (k6 : N1) =>
          LoopP 1 (fun (k7 : N1) => (fun (i_4 : Value) (w5 : World) => 
            Run Tryd.prog (Instr.indexAt 61 ls_0 k_3) w5 fun t22 w6 =>
            Run Tryd.prog (Instr.loadAt 75 t22) w6 fun t23 w7 =>
            Run Tryd.prog (Builtin.len_ #[75] 3 #[t23]) w7 fun t24 w8 =>
            Run Tryd.prog (binSem Go.BinOp.lss 3 (Go.Operand.tmp 19) (Go.Operand.tmp 24) i_4 t24) w8 fun t25 w9 =>
            CondP t25 0 (fun (k8 : N0) =>
              k8 w9)
            (fun (k9 : N0) =>
              k6 i_4 w9)
            (fun (w10 : World) => 
            JoinP 0 (fun (k10 : N0) =>
              Run Tryd.prog (Instr.indexAt 61 ls_0 k_3) w10 fun t30 w11 =>
              Run Tryd.prog (Instr.loadAt 75 t30) w11 fun t31 w12 =>
              Run Tryd.prog (binSem Go.BinOp.add 3 (Go.Operand.tmp 33) (Go.Operand.const (Go.Value.int Go.IntKind.i64 1)) k_3 (Go.Value.int Go.IntKind.i64 1)) w12 fun t34 w13 =>
              Run Tryd.prog (binSem Go.BinOp.mul 3 (Go.Operand.const (Go.Value.int Go.IntKind.i64 (-1000000))) (Go.Operand.tmp 34) (Go.Value.int Go.IntKind.i64 (-1000000)) t34) w13 fun t35 w14 =>
              Run Tryd.prog (binSem Go.BinOp.sub 3 (Go.Operand.tmp 35) (Go.Operand.tmp 36) t35 i_4) w14 fun t37 w15 =>
              Run Tryd.prog (Instr.build 130 #[(4, t37)]) w15 fun t38 w16 =>
              Run Tryd.prog (Instr.indexAt 75 t31 i_4) w16 fun t39 w17 =>
              RunU Tryd.prog (Instr.storeAt 130 t39 t38) w17 fun w18 =>
              k10 w18)
            (fun (w19 : World) => 
            Run Tryd.prog (binSem Go.BinOp.add 3 (Go.Operand.tmp 26) (Go.Operand.const (Go.Value.int Go.IntKind.i64 1)) i_4 (Go.Value.int Go.IntKind.i64 1)) w19 fun t27 w20 =>
            k7 t27 w20))))
          [(Go.Value.int Go.IntKind.i64 0)] w4)
        (fun (i_4 : Value) (w21 : World) => 
        k5 w21))
      (fun (w22 : World) => 
      Run Tryd.prog (binSem Go.BinOp.add 3 (Go.Operand.tmp 17) (Go.Operand.const (Go.Value.int Go.IntKind.i64 1)) k_3 (Go.Value.int Go.IntKind.i64 1)) w22 fun t18 w23 =>
      k2 t18 w23))))
    [(Go.Value.int Go.IntKind.i64 0)] w)
  (fun (k_3 : Value) (w24 : World) => 
  JoinP 2 (fun (k11 : N2) =>
    LoopP 2 (fun (k12 : N2) => (fun (gs_5 : Value) (k_6 : Value) (w25 : World) => 
      Run Tryd.prog (Builtin.len_ #[61] 3 #[ls_0]) w25 fun t42 w26 =>
      Run Tryd.prog (binSem Go.BinOp.lss 3 (Go.Operand.tmp 40) (Go.Operand.tmp 42) k_6 t42) w26 fun t43 w27 =>
      CondP t43 0 (fun (k13 : N0) =>
        k13 w27)
      (fun (k14 : N0) =>
        k11 gs_5 k_6 w27)
      (fun (w28 : World) => 
      JoinP 1 (fun (k15 : N1) =>
        Run Tryd.prog (Instr.indexAt 61 ls_0 k_6) w28 fun t48 w29 =>
        Run Tryd.prog (Instr.loadAt 75 t48) w29 fun t49 w30 =>
        JoinP 2 (fun (k16 : N2) =>
          LoopP 2 (fun (k17 : N2) => (fun (g_7 : Value) (i_8 : Value) (w31 : World) => 
            Run Tryd.prog (binSem Go.BinOp.lss 3 (Go.Operand.tmp 50) (Go.Operand.const (Go.Value.int Go.IntKind.i64 64)) i_8 (Go.Value.int Go.IntKind.i64 64)) w31 fun t51 w32 =>
            CondP t51 0 (fun (k18 : N0) =>
              k18 w32)
            (fun (k19 : N0) =>
              k16 g_7 i_8 w32)
            (fun (w33 : World) => 
            JoinP 1 (fun (k20 : N1) =>
              Run Tryd.prog (Instr.indexAt 61 ls_0 k_6) w33 fun t56 w34 =>
              Run Tryd.prog (Instr.loadAt 75 t56) w34 fun t57 w35 =>
              Run Tryd.prog (Builtin.len_ #[75] 3 #[t57]) w35 fun t58 w36 =>
              Run Tryd.prog (binSem Go.BinOp.add 3 (Go.Operand.tmp 58) (Go.Operand.tmp 59) t58 i_8) w36 fun t60 w37 =>
              Run Tryd.prog (binSem Go.BinOp.add 3 (Go.Operand.tmp 62) (Go.Operand.const (Go.Value.int Go.IntKind.i64 1)) k_6 (Go.Value.int Go.IntKind.i64 1)) w37 fun t63 w38 =>
              Run Tryd.prog (binSem Go.BinOp.mul 3 (Go.Operand.const (Go.Value.int Go.IntKind.i64 (-1000000))) (Go.Operand.tmp 63) (Go.Value.int Go.IntKind.i64 (-1000000)) t63) w38 fun t64 w39 =>
              Run Tryd.prog (binSem Go.BinOp.sub 3 (Go.Operand.tmp 64) (Go.Operand.tmp 65) t64 t60) w39 fun t66 w40 =>
              Run Tryd.prog (Instr.build 130 #[(4, t66)]) w40 fun t67 w41 =>
              Run Tryd.prog (Instr.buildSlice 75 1 #[(0, t67)]) w41 fun t68 w42 =>
              Run Tryd.prog (Builtin.append_ #[75, 75] 75 #[g_7, t68]) w42 fun t69 w43 =>
              k20 t69 w43)
            (fun (g_7 : Value) (w44 : World) => 
            Run Tryd.prog (binSem Go.BinOp.add 3 (Go.Operand.tmp 52) (Go.Operand.const (Go.Value.int Go.IntKind.i64 1)) i_8 (Go.Value.int Go.IntKind.i64 1)) w44 fun t53 w45 =>
            k17 g_7 t53 w45))))
          [t49, (Go.Value.int Go.IntKind.i64 0)] w30)
        (fun (g_7 : Value) (i_8 : Value) (w46 : World) => 
        Run Tryd.prog (Instr.buildSlice 61 1 #[(0, g_7)]) w46 fun t72 w47 =>
        Run Tryd.prog (Builtin.append_ #[61, 61] 61 #[gs_5, t72]) w47 fun t73 w48 =>
        k15 t73 w48))
      (fun (gs_5 : Value) (w49 : World) => 
      Run Tryd.prog (binSem Go.BinOp.add 3 (Go.Operand.tmp 44) (Go.Operand.const (Go.Value.int Go.IntKind.i64 1)) k_6 (Go.Value.int Go.IntKind.i64 1)) w49 fun t45 w50 =>
      k12 gs_5 t45 w50))))
    [(Go.Value.slice none 0 0), (Go.Value.int Go.IntKind.i64 0)] w24)
  (fun (gs_5 : Value) (k_6 : Value) (w51 : World) => 
  JoinP 2 (fun (k21 : N2) =>
    LoopP 2 (fun (k22 : N2) => (fun (t2 : Value) (k_10 : Value) (w52 : World) => 
      Run Tryd.prog (Builtin.len_ #[61] 3 #[ls_0]) w52 fun t76 w53 =>
      Run Tryd.prog (binSem Go.BinOp.lss 3 (Go.Operand.tmp 74) (Go.Operand.tmp 76) k_10 t76) w53 fun t77 w54 =>
      CondP t77 0 (fun (k23 : N0) =>
        k23 w54)
      (fun (k24 : N0) =>
        k21 t2 k_10 w54)
      (fun (w55 : World) => 
      JoinP 1 (fun (k25 : N1) =>
        JoinP 2 (fun (k26 : N2) =>
          LoopP 2 (fun (k27 : N2) => (fun (t2 : Value) (i_11 : Value) (w56 : World) => 
            Run Tryd.prog (Instr.indexAt 61 gs_5 k_10) w56 fun t83 w57 =>
            Run Tryd.prog (Instr.loadAt 75 t83) w57 fun t84 w58 =>
            Run Tryd.prog (Builtin.len_ #[75] 3 #[t84]) w58 fun t85 w59 =>
            Run Tryd.prog (binSem Go.BinOp.lss 3 (Go.Operand.tmp 80) (Go.Operand.tmp 85) i_11 t85) w59 fun t86 w60 =>
            CondP t86 0 (fun (k28 : N0) =>
              k28 w60)
            (fun (k29 : N0) =>
              k26 t2 i_11 w60)
            (fun (w61 : World) => 
            JoinP 1 (fun (k30 : N1) =>
              Run Tryd.prog (binSem Go.BinOp.add 3 (Go.Operand.tmp 89) (Go.Operand.const (Go.Value.int Go.IntKind.i64 1)) k_10 (Go.Value.int Go.IntKind.i64 1)) w61 fun t90 w62 =>
              Run Tryd.prog (binSem Go.BinOp.mul 3 (Go.Operand.const (Go.Value.int Go.IntKind.i64 (-1000000))) (Go.Operand.tmp 90) (Go.Value.int Go.IntKind.i64 (-1000000)) t90) w62 fun t91 w63 =>
              Run Tryd.prog (binSem Go.BinOp.sub 3 (Go.Operand.tmp 91) (Go.Operand.tmp 92) t91 i_11) w63 fun t93 w64 =>
              Run Tryd.prog (Instr.indexAt 61 gs_5 k_10) w64 fun t96 w65 =>
              Run Tryd.prog (Instr.loadAt 75 t96) w65 fun t97 w66 =>
              Run Tryd.prog (Instr.indexAt 75 t97 i_11) w66 fun t99 w67 =>
              Run Tryd.prog (Instr.fieldAt 130 t99 4) w67 fun t100 w68 =>
              Run Tryd.prog (Instr.loadAt 3 t100) w68 fun t101 w69 =>
              Run Tryd.prog (binSem Go.BinOp.neq 3 (Go.Operand.tmp 101) (Go.Operand.tmp 102) t101 t93) w69 fun t103 w70 =>
              GuardP t103 false (fun (k31 : N1) => k31 i_11 w70) w70 fun t105 w71 =>
              GuardP t103 false (fun (k32 : N1) => k32 ls_0 w71) w71 fun t106 w72 =>
              GuardP t103 false (fun (k33 : N1) => k33 k_10 w72) w72 fun t107 w73 =>
              GuardP t103 false (fun (k34 : N1) => Run Tryd.prog (Instr.indexAt 61 t106 t107) w73 k34) w73 fun t108 w74 =>
              GuardP t103 false (fun (k35 : N1) => Run Tryd.prog (Instr.loadAt 75 t108) w74 k35) w74 fun t109 w75 =>
              GuardP t103 false (fun (k36 : N1) => Run Tryd.prog (Builtin.len_ #[75] 3 #[t109]) w75 k36) w75 fun t110 w76 =>
              GuardP t103 false (fun (k37 : N1) => Run Tryd.prog (binSem Go.BinOp.lss 3 (Go.Operand.tmp 105) (Go.Operand.tmp 110) t105 t110) w76 k37) w76 fun t111 w77 =>
              GuardP t103 false (fun (k38 : N1) => k38 t111 w77) w77 fun t112 w78 =>
              GuardP t112 true (fun (k39 : N1) => k39 ls_0 w78) w78 fun t113 w79 =>
              GuardP t112 true (fun (k40 : N1) => k40 k_10 w79) w79 fun t114 w80 =>
              GuardP t112 true (fun (k41 : N1) => Run Tryd.prog (Instr.indexAt 61 t113 t114) w80 k41) w80 fun t115 w81 =>
              GuardP t112 true (fun (k42 : N1) => Run Tryd.prog (Instr.loadAt 75 t115) w81 k42) w81 fun t116 w82 =>
              GuardP t112 true (fun (k43 : N1) => k43 i_11 w82) w82 fun t117 w83 =>
              GuardP t112 true (fun (k44 : N1) => Run Tryd.prog (Instr.indexAt 75 t116 t117) w83 k44) w83 fun t118 w84 =>
              GuardP t112 true (fun (k45 : N1) => Run Tryd.prog (Instr.fieldAt 130 t118 4) w84 k45) w84 fun t119 w85 =>
              GuardP t112 true (fun (k46 : N1) => Run Tryd.prog (Instr.loadAt 3 t119) w85 k46) w85 fun t120 w86 =>
              GuardP t112 true (fun (k47 : N1) => k47 t93 w86) w86 fun t121 w87 =>
              GuardP t112 true (fun (k48 : N1) => Run Tryd.prog (binSem Go.BinOp.neq 3 (Go.Operand.tmp 120) (Go.Operand.tmp 121) t120 t121) w87 k48) w87 fun t122 w88 =>
              GuardP t103 false (fun (k49 : N1) => PickP t112 t122 (Go.Value.bool false) w88 k49) w88 fun t123 w89 =>
              PickP t103 (Go.Value.bool true) t123 w89 fun t124 w90 =>
              CondP t124 1 (fun (k50 : N1) =>
                R (Go.Value.bool false) w90)
              (fun (k51 : N1) =>
                k51 t2 w90)
              (fun (t2 : Value) (w91 : World) => 
              k30 t2 w91))
            (fun (t2 : Value) (w92 : World) => 
            Run Tryd.prog (binSem Go.BinOp.add 3 (Go.Operand.tmp 87) (Go.Operand.const (Go.Value.int Go.IntKind.i64 1)) i_11 (Go.Value.int Go.IntKind.i64 1)) w92 fun t88 w93 =>
            k27 t2 t88 w93))))
          [t2, (Go.Value.int Go.IntKind.i64 0)] w55)
        (fun (t2 : Value) (i_11 : Value) (w94 : World) => 
        k25 t2 w94))
      (fun (t2 : Value) (w95 : World) => 
      Run Tryd.prog (binSem Go.BinOp.add 3 (Go.Operand.tmp 78) (Go.Operand.const (Go.Value.int Go.IntKind.i64 1)) k_10 (Go.Value.int Go.IntKind.i64 1)) w95 fun t79 w96 =>
      k22 t2 t79 w96))))
    [(Go.Value.bool false), (Go.Value.int Go.IntKind.i64 0)] w51)
  (fun (t2 : Value) (k_10 : Value) (w97 : World) => 
  R (Go.Value.bool true) w97)))
theorem S41_eq (ls_0 : Value) (w : World) (R : Value → World → Prop) : vcFn Tryd.prog Tryd.f41 [ls_0] w R = S41 ls_0 w R := by kernel_rfl
theorem D41 {ls_0 : Value} {w : World} {R : Value → World → Prop} (h : S41 ls_0 w R) : Does Tryd.prog 41 [ls_0] w R :=
  does_of_vc mixed Tryd.func41 (by kernel_rfl) (by kernel_rfl) ((S41_eq ls_0 w R).mpr h)

/-- busbar/busbarkit.apartMessages -/
def S42 (ls_0 : Value) (w : World) (R : Value → World → Prop) : Prop :=
  JoinP 1 (fun (k1 : N1) =>
    LoopP 1 (fun (k2 : N1) => (fun (k_3 : Value) (w1 : World) => 
      Run Tryd.prog (Builtin.len_ #[62] 3 #[ls_0]) w1 fun t15 w2 =>
      Run Tryd.prog (binSem Go.BinOp.lss 3 (Go.Operand.tmp 13) (Go.Operand.tmp 15) k_3 t15) w2 fun t16 w3 =>
      CondP t16 0 (fun (k3 : N0) =>
        k3 w3)
      (fun (k4 : N0) =>
        k1 k_3 w3)
      (fun (w4 : World) => 
      JoinP 0 (fun (k5 : N0) =>
        JoinP 1 (fun (k6 : N1) =>
          LoopP 1 (fun (k7 : N1) => (fun (i_4 : Value) (w5 : World) => 
            Run Tryd.prog (Instr.indexAt 62 ls_0 k_3) w5 fun t22 w6 =>
            Run Tryd.prog (Instr.loadAt 29 t22) w6 fun t23 w7 =>
            Run Tryd.prog (Builtin.len_ #[29] 3 #[t23]) w7 fun t24 w8 =>
            Run Tryd.prog (binSem Go.BinOp.lss 3 (Go.Operand.tmp 19) (Go.Operand.tmp 24) i_4 t24) w8 fun t25 w9 =>
            CondP t25 0 (fun (k8 : N0) =>
              k8 w9)
            (fun (k9 : N0) =>
              k6 i_4 w9)
            (fun (w10 : World) => 
            JoinP 0 (fun (k10 : N0) =>
              Run Tryd.prog (Instr.indexAt 62 ls_0 k_3) w10 fun t30 w11 =>
              Run Tryd.prog (Instr.loadAt 29 t30) w11 fun t31 w12 =>
              Run Tryd.prog (binSem Go.BinOp.add 3 (Go.Operand.tmp 33) (Go.Operand.const (Go.Value.int Go.IntKind.i64 1)) k_3 (Go.Value.int Go.IntKind.i64 1)) w12 fun t34 w13 =>
              Run Tryd.prog (binSem Go.BinOp.mul 3 (Go.Operand.const (Go.Value.int Go.IntKind.i64 (-1000000))) (Go.Operand.tmp 34) (Go.Value.int Go.IntKind.i64 (-1000000)) t34) w13 fun t35 w14 =>
              Run Tryd.prog (binSem Go.BinOp.sub 3 (Go.Operand.tmp 35) (Go.Operand.tmp 36) t35 i_4) w14 fun t37 w15 =>
              Run Tryd.prog (Instr.build 77 #[(4, t37)]) w15 fun t38 w16 =>
              Run Tryd.prog (Instr.indexAt 29 t31 i_4) w16 fun t39 w17 =>
              RunU Tryd.prog (Instr.storeAt 77 t39 t38) w17 fun w18 =>
              k10 w18)
            (fun (w19 : World) => 
            Run Tryd.prog (binSem Go.BinOp.add 3 (Go.Operand.tmp 26) (Go.Operand.const (Go.Value.int Go.IntKind.i64 1)) i_4 (Go.Value.int Go.IntKind.i64 1)) w19 fun t27 w20 =>
            k7 t27 w20))))
          [(Go.Value.int Go.IntKind.i64 0)] w4)
        (fun (i_4 : Value) (w21 : World) => 
        k5 w21))
      (fun (w22 : World) => 
      Run Tryd.prog (binSem Go.BinOp.add 3 (Go.Operand.tmp 17) (Go.Operand.const (Go.Value.int Go.IntKind.i64 1)) k_3 (Go.Value.int Go.IntKind.i64 1)) w22 fun t18 w23 =>
      k2 t18 w23))))
    [(Go.Value.int Go.IntKind.i64 0)] w)
  (fun (k_3 : Value) (w24 : World) => 
  JoinP 2 (fun (k11 : N2) =>
    LoopP 2 (fun (k12 : N2) => (fun (gs_5 : Value) (k_6 : Value) (w25 : World) => 
      Run Tryd.prog (Builtin.len_ #[62] 3 #[ls_0]) w25 fun t42 w26 =>
      Run Tryd.prog (binSem Go.BinOp.lss 3 (Go.Operand.tmp 40) (Go.Operand.tmp 42) k_6 t42) w26 fun t43 w27 =>
      CondP t43 0 (fun (k13 : N0) =>
        k13 w27)
      (fun (k14 : N0) =>
        k11 gs_5 k_6 w27)
      (fun (w28 : World) => 
      JoinP 1 (fun (k15 : N1) =>
        Run Tryd.prog (Instr.indexAt 62 ls_0 k_6) w28 fun t48 w29 =>
        Run Tryd.prog (Instr.loadAt 29 t48) w29 fun t49 w30 =>
        JoinP 2 (fun (k16 : N2) =>
          LoopP 2 (fun (k17 : N2) => (fun (g_7 : Value) (i_8 : Value) (w31 : World) => 
            Run Tryd.prog (binSem Go.BinOp.lss 3 (Go.Operand.tmp 50) (Go.Operand.const (Go.Value.int Go.IntKind.i64 64)) i_8 (Go.Value.int Go.IntKind.i64 64)) w31 fun t51 w32 =>
            CondP t51 0 (fun (k18 : N0) =>
              k18 w32)
            (fun (k19 : N0) =>
              k16 g_7 i_8 w32)
            (fun (w33 : World) => 
            JoinP 1 (fun (k20 : N1) =>
              Run Tryd.prog (Instr.indexAt 62 ls_0 k_6) w33 fun t56 w34 =>
              Run Tryd.prog (Instr.loadAt 29 t56) w34 fun t57 w35 =>
              Run Tryd.prog (Builtin.len_ #[29] 3 #[t57]) w35 fun t58 w36 =>
              Run Tryd.prog (binSem Go.BinOp.add 3 (Go.Operand.tmp 58) (Go.Operand.tmp 59) t58 i_8) w36 fun t60 w37 =>
              Run Tryd.prog (binSem Go.BinOp.add 3 (Go.Operand.tmp 62) (Go.Operand.const (Go.Value.int Go.IntKind.i64 1)) k_6 (Go.Value.int Go.IntKind.i64 1)) w37 fun t63 w38 =>
              Run Tryd.prog (binSem Go.BinOp.mul 3 (Go.Operand.const (Go.Value.int Go.IntKind.i64 (-1000000))) (Go.Operand.tmp 63) (Go.Value.int Go.IntKind.i64 (-1000000)) t63) w38 fun t64 w39 =>
              Run Tryd.prog (binSem Go.BinOp.sub 3 (Go.Operand.tmp 64) (Go.Operand.tmp 65) t64 t60) w39 fun t66 w40 =>
              Run Tryd.prog (Instr.build 77 #[(4, t66)]) w40 fun t67 w41 =>
              Run Tryd.prog (Instr.buildSlice 29 1 #[(0, t67)]) w41 fun t68 w42 =>
              Run Tryd.prog (Builtin.append_ #[29, 29] 29 #[g_7, t68]) w42 fun t69 w43 =>
              k20 t69 w43)
            (fun (g_7 : Value) (w44 : World) => 
            Run Tryd.prog (binSem Go.BinOp.add 3 (Go.Operand.tmp 52) (Go.Operand.const (Go.Value.int Go.IntKind.i64 1)) i_8 (Go.Value.int Go.IntKind.i64 1)) w44 fun t53 w45 =>
            k17 g_7 t53 w45))))
          [t49, (Go.Value.int Go.IntKind.i64 0)] w30)
        (fun (g_7 : Value) (i_8 : Value) (w46 : World) => 
        Run Tryd.prog (Instr.buildSlice 62 1 #[(0, g_7)]) w46 fun t72 w47 =>
        Run Tryd.prog (Builtin.append_ #[62, 62] 62 #[gs_5, t72]) w47 fun t73 w48 =>
        k15 t73 w48))
      (fun (gs_5 : Value) (w49 : World) => 
      Run Tryd.prog (binSem Go.BinOp.add 3 (Go.Operand.tmp 44) (Go.Operand.const (Go.Value.int Go.IntKind.i64 1)) k_6 (Go.Value.int Go.IntKind.i64 1)) w49 fun t45 w50 =>
      k12 gs_5 t45 w50))))
    [(Go.Value.slice none 0 0), (Go.Value.int Go.IntKind.i64 0)] w24)
  (fun (gs_5 : Value) (k_6 : Value) (w51 : World) => 
  JoinP 2 (fun (k21 : N2) =>
    LoopP 2 (fun (k22 : N2) => (fun (t2 : Value) (k_10 : Value) (w52 : World) => 
      Run Tryd.prog (Builtin.len_ #[62] 3 #[ls_0]) w52 fun t76 w53 =>
      Run Tryd.prog (binSem Go.BinOp.lss 3 (Go.Operand.tmp 74) (Go.Operand.tmp 76) k_10 t76) w53 fun t77 w54 =>
      CondP t77 0 (fun (k23 : N0) =>
        k23 w54)
      (fun (k24 : N0) =>
        k21 t2 k_10 w54)
      (fun (w55 : World) => 
      JoinP 1 (fun (k25 : N1) =>
        JoinP 2 (fun (k26 : N2) =>
          LoopP 2 (fun (k27 : N2) => (fun (t2 : Value) (i_11 : Value) (w56 : World) => 
            Run Tryd.prog (Instr.indexAt 62 gs_5 k_10) w56 fun t83 w57 =>
            Run Tryd.prog (Instr.loadAt 29 t83) w57 fun t84 w58 =>
            Run Tryd.prog (Builtin.len_ #[29] 3 #[t84]) w58 fun t85 w59 =>
            Run Tryd.prog (binSem Go.BinOp.lss 3 (Go.Operand.tmp 80) (Go.Operand.tmp 85) i_11 t85) w59 fun t86 w60 =>
            CondP t86 0 (fun (k28 : N0) =>
              k28 w60)
            (fun (k29 : N0) =>
              k26 t2 i_11 w60)
            (fun (w61 : World) => 
            JoinP 1 (fun (k30 : N1) =>
              Run Tryd.prog (binSem Go.BinOp.add 3 (Go.Operand.tmp 89) (Go.Operand.const (Go.Value.int Go.IntKind.i64 1)) k_10 (Go.Value.int Go.IntKind.i64 1)) w61 fun t90 w62 =>
              Run Tryd.prog (binSem Go.BinOp.mul 3 (Go.Operand.const (Go.Value.int Go.IntKind.i64 (-1000000))) (Go.Operand.tmp 90) (Go.Value.int Go.IntKind.i64 (-1000000)) t90) w62 fun t91 w63 =>
              Run Tryd.prog (binSem Go.BinOp.sub 3 (Go.Operand.tmp 91) (Go.Operand.tmp 92) t91 i_11) w63 fun t93 w64 =>
              Run Tryd.prog (Instr.indexAt 62 gs_5 k_10) w64 fun t96 w65 =>
              Run Tryd.prog (Instr.loadAt 29 t96) w65 fun t97 w66 =>
              Run Tryd.prog (Instr.indexAt 29 t97 i_11) w66 fun t99 w67 =>
              Run Tryd.prog (Instr.fieldAt 77 t99 4) w67 fun t100 w68 =>
              Run Tryd.prog (Instr.loadAt 3 t100) w68 fun t101 w69 =>
              Run Tryd.prog (binSem Go.BinOp.neq 3 (Go.Operand.tmp 101) (Go.Operand.tmp 102) t101 t93) w69 fun t103 w70 =>
              GuardP t103 false (fun (k31 : N1) => k31 i_11 w70) w70 fun t105 w71 =>
              GuardP t103 false (fun (k32 : N1) => k32 ls_0 w71) w71 fun t106 w72 =>
              GuardP t103 false (fun (k33 : N1) => k33 k_10 w72) w72 fun t107 w73 =>
              GuardP t103 false (fun (k34 : N1) => Run Tryd.prog (Instr.indexAt 62 t106 t107) w73 k34) w73 fun t108 w74 =>
              GuardP t103 false (fun (k35 : N1) => Run Tryd.prog (Instr.loadAt 29 t108) w74 k35) w74 fun t109 w75 =>
              GuardP t103 false (fun (k36 : N1) => Run Tryd.prog (Builtin.len_ #[29] 3 #[t109]) w75 k36) w75 fun t110 w76 =>
              GuardP t103 false (fun (k37 : N1) => Run Tryd.prog (binSem Go.BinOp.lss 3 (Go.Operand.tmp 105) (Go.Operand.tmp 110) t105 t110) w76 k37) w76 fun t111 w77 =>
              GuardP t103 false (fun (k38 : N1) => k38 t111 w77) w77 fun t112 w78 =>
              GuardP t112 true (fun (k39 : N1) => k39 ls_0 w78) w78 fun t113 w79 =>
              GuardP t112 true (fun (k40 : N1) => k40 k_10 w79) w79 fun t114 w80 =>
              GuardP t112 true (fun (k41 : N1) => Run Tryd.prog (Instr.indexAt 62 t113 t114) w80 k41) w80 fun t115 w81 =>
              GuardP t112 true (fun (k42 : N1) => Run Tryd.prog (Instr.loadAt 29 t115) w81 k42) w81 fun t116 w82 =>
              GuardP t112 true (fun (k43 : N1) => k43 i_11 w82) w82 fun t117 w83 =>
              GuardP t112 true (fun (k44 : N1) => Run Tryd.prog (Instr.indexAt 29 t116 t117) w83 k44) w83 fun t118 w84 =>
              GuardP t112 true (fun (k45 : N1) => Run Tryd.prog (Instr.fieldAt 77 t118 4) w84 k45) w84 fun t119 w85 =>
              GuardP t112 true (fun (k46 : N1) => Run Tryd.prog (Instr.loadAt 3 t119) w85 k46) w85 fun t120 w86 =>
              GuardP t112 true (fun (k47 : N1) => k47 t93 w86) w86 fun t121 w87 =>
              GuardP t112 true (fun (k48 : N1) => Run Tryd.prog (binSem Go.BinOp.neq 3 (Go.Operand.tmp 120) (Go.Operand.tmp 121) t120 t121) w87 k48) w87 fun t122 w88 =>
              GuardP t103 false (fun (k49 : N1) => PickP t112 t122 (Go.Value.bool false) w88 k49) w88 fun t123 w89 =>
              PickP t103 (Go.Value.bool true) t123 w89 fun t124 w90 =>
              CondP t124 1 (fun (k50 : N1) =>
                R (Go.Value.bool false) w90)
              (fun (k51 : N1) =>
                k51 t2 w90)
              (fun (t2 : Value) (w91 : World) => 
              k30 t2 w91))
            (fun (t2 : Value) (w92 : World) => 
            Run Tryd.prog (binSem Go.BinOp.add 3 (Go.Operand.tmp 87) (Go.Operand.const (Go.Value.int Go.IntKind.i64 1)) i_11 (Go.Value.int Go.IntKind.i64 1)) w92 fun t88 w93 =>
            k27 t2 t88 w93))))
          [t2, (Go.Value.int Go.IntKind.i64 0)] w55)
        (fun (t2 : Value) (i_11 : Value) (w94 : World) => 
        k25 t2 w94))
      (fun (t2 : Value) (w95 : World) => 
      Run Tryd.prog (binSem Go.BinOp.add 3 (Go.Operand.tmp 78) (Go.Operand.const (Go.Value.int Go.IntKind.i64 1)) k_10 (Go.Value.int Go.IntKind.i64 1)) w95 fun t79 w96 =>
      k22 t2 t79 w96))))
    [(Go.Value.bool false), (Go.Value.int Go.IntKind.i64 0)] w51)
  (fun (t2 : Value) (k_10 : Value) (w97 : World) => 
  R (Go.Value.bool true) w97)))
theorem S42_eq (ls_0 : Value) (w : World) (R : Value → World → Prop) : vcFn Tryd.prog Tryd.f42 [ls_0] w R = S42 ls_0 w R := by kernel_rfl
theorem D42 {ls_0 : Value} {w : World} {R : Value → World → Prop} (h : S42 ls_0 w R) : Does Tryd.prog 42 [ls_0] w R :=
  does_of_vc mixed Tryd.func42 (by kernel_rfl) (by kernel_rfl) ((S42_eq ls_0 w R).mpr h)

/-- busbar/busbarkit.apartTables -/
def S43 (ls_0 : Value) (w : World) (R : Value → World → Prop) : Prop :=
  JoinP 1 (fun (k1 : N1) =>
    LoopP 1 (fun (k2 : N1) => (fun (k_3 : Value) (w1 : World) => 
      Run Tryd.prog (Builtin.len_ #[63] 3 #[ls_0]) w1 fun t15 w2 =>
      Run Tryd.prog (binSem Go.BinOp.lss 3 (Go.Operand.tmp 13) (Go.Operand.tmp 15) k_3 t15) w2 fun t16 w3 =>
      CondP t16 0 (fun (k3 : N0) =>
        k3 w3)
      (fun (k4 : N0) =>
        k1 k_3 w3)
      (fun (w4 : World) => 
      JoinP 0 (fun (k5 : N0) =>
        JoinP 1 (fun (k6 : N1) =>
          LoopP 1 (fun (k7 : N1) => (fun (i_4 : Value) (w5 : World) => 
            Run Tryd.prog (Instr.indexAt 63 ls_0 k_3) w5 fun t22 w6 =>
            Run Tryd.prog (Instr.loadAt 30 t22) w6 fun t23 w7 =>
            Run Tryd.prog (Builtin.len_ #[30] 3 #[t23]) w7 fun t24 w8 =>
            Run Tryd.prog (binSem Go.BinOp.lss 3 (Go.Operand.tmp 19) (Go.Operand.tmp 24) i_4 t24) w8 fun t25 w9 =>
            CondP t25 0 (fun (k8 : N0) =>
              k8 w9)
            (fun (k9 : N0) =>
              k6 i_4 w9)
            (fun (w10 : World) => 
            JoinP 0 (fun (k10 : N0) =>
              ∀ w11, Ext w10 w11 →
              RunQ Tryd.prog (Instr.indexAt 63 ls_0 k_3) w11 fun t30 =>
              RunQ Tryd.prog (Instr.loadAt 30 t30) w11 fun t31 =>
              GoN Tryd.prog (callFunc 66 #[k_3, i_4]) w11 fun t35 w12 => Ext w11 w12 ∧
              RunQ Tryd.prog (Instr.build 81 #[(3, t35)]) w11 fun t36 =>
              RunQ Tryd.prog (Instr.indexAt 30 t31 i_4) w11 fun t37 =>
              RunU Tryd.prog (Instr.storeAt 81 t37 t36) w12 fun w13 =>
              k10 w13)
            (fun (w14 : World) => 
            Run Tryd.prog (binSem Go.BinOp.add 3 (Go.Operand.tmp 26) (Go.Operand.const (Go.Value.int Go.IntKind.i64 1)) i_4 (Go.Value.int Go.IntKind.i64 1)) w14 fun t27 w15 =>
            k7 t27 w15))))
          [(Go.Value.int Go.IntKind.i64 0)] w4)
        (fun (i_4 : Value) (w16 : World) => 
        k5 w16))
      (fun (w17 : World) => 
      Run Tryd.prog (binSem Go.BinOp.add 3 (Go.Operand.tmp 17) (Go.Operand.const (Go.Value.int Go.IntKind.i64 1)) k_3 (Go.Value.int Go.IntKind.i64 1)) w17 fun t18 w18 =>
      k2 t18 w18))))
    [(Go.Value.int Go.IntKind.i64 0)] w)
  (fun (k_3 : Value) (w19 : World) => 
  JoinP 2 (fun (k11 : N2) =>
    LoopP 2 (fun (k12 : N2) => (fun (gs_5 : Value) (k_6 : Value) (w20 : World) => 
      Run Tryd.prog (Builtin.len_ #[63] 3 #[ls_0]) w20 fun t40 w21 =>
      Run Tryd.prog (binSem Go.BinOp.lss 3 (Go.Operand.tmp 38) (Go.Operand.tmp 40) k_6 t40) w21 fun t41 w22 =>
      CondP t41 0 (fun (k13 : N0) =>
        k13 w22)
      (fun (k14 : N0) =>
        k11 gs_5 k_6 w22)
      (fun (w23 : World) => 
      JoinP 1 (fun (k15 : N1) =>
        Run Tryd.prog (Instr.indexAt 63 ls_0 k_6) w23 fun t46 w24 =>
        Run Tryd.prog (Instr.loadAt 30 t46) w24 fun t47 w25 =>
        JoinP 2 (fun (k16 : N2) =>
          LoopP 2 (fun (k17 : N2) => (fun (g_7 : Value) (i_8 : Value) (w26 : World) => 
            Run Tryd.prog (binSem Go.BinOp.lss 3 (Go.Operand.tmp 48) (Go.Operand.const (Go.Value.int Go.IntKind.i64 64)) i_8 (Go.Value.int Go.IntKind.i64 64)) w26 fun t49 w27 =>
            CondP t49 0 (fun (k18 : N0) =>
              k18 w27)
            (fun (k19 : N0) =>
              k16 g_7 i_8 w27)
            (fun (w28 : World) => 
            JoinP 1 (fun (k20 : N1) =>
              Run Tryd.prog (Instr.indexAt 63 ls_0 k_6) w28 fun t54 w29 =>
              Run Tryd.prog (Instr.loadAt 30 t54) w29 fun t55 w30 =>
              Run Tryd.prog (Builtin.len_ #[30] 3 #[t55]) w30 fun t56 w31 =>
              Run Tryd.prog (binSem Go.BinOp.add 3 (Go.Operand.tmp 56) (Go.Operand.tmp 57) t56 i_8) w31 fun t58 w32 =>
              GoN Tryd.prog (callFunc 66 #[k_6, t58]) w32 fun t62 w33 =>
              Run Tryd.prog (Instr.build 81 #[(3, t62)]) w33 fun t63 w34 =>
              Run Tryd.prog (Instr.buildSlice 30 1 #[(0, t63)]) w34 fun t64 w35 =>
              Run Tryd.prog (Builtin.append_ #[30, 30] 30 #[g_7, t64]) w35 fun t65 w36 =>
              k20 t65 w36)
            (fun (g_7 : Value) (w37 : World) => 
            Run Tryd.prog (binSem Go.BinOp.add 3 (Go.Operand.tmp 50) (Go.Operand.const (Go.Value.int Go.IntKind.i64 1)) i_8 (Go.Value.int Go.IntKind.i64 1)) w37 fun t51 w38 =>
            k17 g_7 t51 w38))))
          [t47, (Go.Value.int Go.IntKind.i64 0)] w25)
        (fun (g_7 : Value) (i_8 : Value) (w39 : World) => 
        Run Tryd.prog (Instr.buildSlice 63 1 #[(0, g_7)]) w39 fun t68 w40 =>
        Run Tryd.prog (Builtin.append_ #[63, 63] 63 #[gs_5, t68]) w40 fun t69 w41 =>
        k15 t69 w41))
      (fun (gs_5 : Value) (w42 : World) => 
      Run Tryd.prog (binSem Go.BinOp.add 3 (Go.Operand.tmp 42) (Go.Operand.const (Go.Value.int Go.IntKind.i64 1)) k_6 (Go.Value.int Go.IntKind.i64 1)) w42 fun t43 w43 =>
      k12 gs_5 t43 w43))))
    [(Go.Value.slice none 0 0), (Go.Value.int Go.IntKind.i64 0)] w19)
  (fun (gs_5 : Value) (k_6 : Value) (w44 : World) => 
  JoinP 2 (fun (k21 : N2) =>
    LoopP 2 (fun (k22 : N2) => (fun (t2 : Value) (k_10 : Value) (w45 : World) => 
      Run Tryd.prog (Builtin.len_ #[63] 3 #[ls_0]) w45 fun t72 w46 =>
      Run Tryd.prog (binSem Go.BinOp.lss 3 (Go.Operand.tmp 70) (Go.Operand.tmp 72) k_10 t72) w46 fun t73 w47 =>
      CondP t73 0 (fun (k23 : N0) =>
        k23 w47)
      (fun (k24 : N0) =>
        k21 t2 k_10 w47)
      (fun (w48 : World) => 
      JoinP 1 (fun (k25 : N1) =>
        JoinP 2 (fun (k26 : N2) =>
          LoopP 2 (fun (k27 : N2) => (fun (t2 : Value) (i_11 : Value) (w49 : World) => 
            Run Tryd.prog (Instr.indexAt 63 gs_5 k_10) w49 fun t79 w50 =>
            Run Tryd.prog (Instr.loadAt 30 t79) w50 fun t80 w51 =>
            Run Tryd.prog (Builtin.len_ #[30] 3 #[t80]) w51 fun t81 w52 =>
            Run Tryd.prog (binSem Go.BinOp.lss 3 (Go.Operand.tmp 76) (Go.Operand.tmp 81) i_11 t81) w52 fun t82 w53 =>
            CondP t82 0 (fun (k28 : N0) =>
              k28 w53)
            (fun (k29 : N0) =>
              k26 t2 i_11 w53)
            (fun (w54 : World) => 
            JoinP 1 (fun (k30 : N1) =>
              GoN Tryd.prog (callFunc 66 #[k_10, i_11]) w54 fun t87 w55 =>
              Run Tryd.prog (Instr.indexAt 63 gs_5 k_10) w55 fun t90 w56 =>
              Run Tryd.prog (Instr.loadAt 30 t90) w56 fun t91 w57 =>
              Run Tryd.prog (Instr.indexAt 30 t91 i_11) w57 fun t93 w58 =>
              Run Tryd.prog (Instr.fieldAt 81 t93 3) w58 fun t94 w59 =>
              Run Tryd.prog (Instr.loadAt 9 t94) w59 fun t95 w60 =>
              Run Tryd.prog (binSem Go.BinOp.neq 9 (Go.Operand.tmp 95) (Go.Operand.tmp 96) t95 t87) w60 fun t97 w61 =>
              GuardP t97 false (fun (k31 : N1) => k31 i_11 w61) w61 fun t99 w62 =>
              GuardP t97 false (fun (k32 : N1) => k32 ls_0 w62) w62 fun t100 w63 =>
              GuardP t97 false (fun (k33 : N1) => k33 k_10 w63) w63 fun t101 w64 =>
              GuardP t97 false (fun (k34 : N1) => Run Tryd.prog (Instr.indexAt 63 t100 t101) w64 k34) w64 fun t102 w65 =>
              GuardP t97 false (fun (k35 : N1) => Run Tryd.prog (Instr.loadAt 30 t102) w65 k35) w65 fun t103 w66 =>
              GuardP t97 false (fun (k36 : N1) => Run Tryd.prog (Builtin.len_ #[30] 3 #[t103]) w66 k36) w66 fun t104 w67 =>
              GuardP t97 false (fun (k37 : N1) => Run Tryd.prog (binSem Go.BinOp.lss 3 (Go.Operand.tmp 99) (Go.Operand.tmp 104) t99 t104) w67 k37) w67 fun t105 w68 =>
              GuardP t97 false (fun (k38 : N1) => k38 t105 w68) w68 fun t106 w69 =>
              GuardP t106 true (fun (k39 : N1) => k39 ls_0 w69) w69 fun t107 w70 =>
              GuardP t106 true (fun (k40 : N1) => k40 k_10 w70) w70 fun t108 w71 =>
              GuardP t106 true (fun (k41 : N1) => Run Tryd.prog (Instr.indexAt 63 t107 t108) w71 k41) w71 fun t109 w72 =>
              GuardP t106 true (fun (k42 : N1) => Run Tryd.prog (Instr.loadAt 30 t109) w72 k42) w72 fun t110 w73 =>
              GuardP t106 true (fun (k43 : N1) => k43 i_11 w73) w73 fun t111 w74 =>
              GuardP t106 true (fun (k44 : N1) => Run Tryd.prog (Instr.indexAt 30 t110 t111) w74 k44) w74 fun t112 w75 =>
              GuardP t106 true (fun (k45 : N1) => Run Tryd.prog (Instr.fieldAt 81 t112 3) w75 k45) w75 fun t113 w76 =>
              GuardP t106 true (fun (k46 : N1) => Run Tryd.prog (Instr.loadAt 9 t113) w76 k46) w76 fun t114 w77 =>
              GuardP t106 true (fun (k47 : N1) => k47 t87 w77) w77 fun t115 w78 =>
              GuardP t106 true (fun (k48 : N1) => Run Tryd.prog (binSem Go.BinOp.neq 9 (Go.Operand.tmp 114) (Go.Operand.tmp 115) t114 t115) w78 k48) w78 fun t116 w79 =>
              GuardP t97 false (fun (k49 : N1) => PickP t106 t116 (Go.Value.bool false) w79 k49) w79 fun t117 w80 =>
              PickP t97 (Go.Value.bool true) t117 w80 fun t118 w81 =>
              CondP t118 1 (fun (k50 : N1) =>
                R (Go.Value.bool false) w81)
              (fun (k51 : N1) =>
                k51 t2 w81)
              (fun (t2 : Value) (w82 : World) => 
              k30 t2 w82))
            (fun (t2 : Value) (w83 : World) => 
            Run Tryd.prog (binSem Go.BinOp.add 3 (Go.Operand.tmp 83) (Go.Operand.const (Go.Value.int Go.IntKind.i64 1)) i_11 (Go.Value.int Go.IntKind.i64 1)) w83 fun t84 w84 =>
            k27 t2 t84 w84))))
          [t2, (Go.Value.int Go.IntKind.i64 0)] w48)
        (fun (t2 : Value) (i_11 : Value) (w85 : World) => 
        k25 t2 w85))
      (fun (t2 : Value) (w86 : World) => 
      Run Tryd.prog (binSem Go.BinOp.add 3 (Go.Operand.tmp 74) (Go.Operand.const (Go.Value.int Go.IntKind.i64 1)) k_10 (Go.Value.int Go.IntKind.i64 1)) w86 fun t75 w87 =>
      k22 t2 t75 w87))))
    [(Go.Value.bool false), (Go.Value.int Go.IntKind.i64 0)] w44)
  (fun (t2 : Value) (k_10 : Value) (w88 : World) => 
  R (Go.Value.bool true) w88)))
theorem S43_eq (ls_0 : Value) (w : World) (R : Value → World → Prop) : vcFn Tryd.prog Tryd.f43 [ls_0] w R = S43 ls_0 w R := by kernel_rfl
theorem D43 {ls_0 : Value} {w : World} {R : Value → World → Prop} (h : S43 ls_0 w R) : Does Tryd.prog 43 [ls_0] w R :=
  does_of_vc mixed Tryd.func43 (by kernel_rfl) (by kernel_rfl) ((S43_eq ls_0 w R).mpr h)

/-- busbar/busbarkit.apartFrames -/
def S44 (ls_0 : Value) (w : World) (R : Value → World → Prop) : Prop :=
  JoinP 1 (fun (k1 : N1) =>
    LoopP 1 (fun (k2 : N1) => (fun (k_3 : Value) (w1 : World) => 
      Run Tryd.prog (Builtin.len_ #[64] 3 #[ls_0]) w1 fun t15 w2 =>
      Run Tryd.prog (binSem Go.BinOp.lss 3 (Go.Operand.tmp 13) (Go.Operand.tmp 15) k_3 t15) w2 fun t16 w3 =>
      CondP t16 0 (fun (k3 : N0) =>
        k3 w3)
      (fun (k4 : N0) =>
        k1 k_3 w3)
      (fun (w4 : World) => 
      JoinP 0 (fun (k5 : N0) =>
        JoinP 1 (fun (k6 : N1) =>
          LoopP 1 (fun (k7 : N1) => (fun (i_4 : Value) (w5 : World) => 
            Run Tryd.prog (Instr.indexAt 64 ls_0 k_3) w5 fun t22 w6 =>
            Run Tryd.prog (Instr.loadAt 163 t22) w6 fun t23 w7 =>
            Run Tryd.prog (Builtin.len_ #[163] 3 #[t23]) w7 fun t24 w8 =>
            Run Tryd.prog (binSem Go.BinOp.lss 3 (Go.Operand.tmp 19) (Go.Operand.tmp 24) i_4 t24) w8 fun t25 w9 =>
            CondP t25 0 (fun (k8 : N0) =>
              k8 w9)
            (fun (k9 : N0) =>
              k6 i_4 w9)
            (fun (w10 : World) => 
            JoinP 0 (fun (k10 : N0) =>
              Run Tryd.prog (Instr.indexAt 64 ls_0 k_3) w10 fun t30 w11 =>
              Run Tryd.prog (Instr.loadAt 163 t30) w11 fun t31 w12 =>
              Run Tryd.prog (binSem Go.BinOp.add 3 (Go.Operand.tmp 33) (Go.Operand.const (Go.Value.int Go.IntKind.i64 1)) k_3 (Go.Value.int Go.IntKind.i64 1)) w12 fun t34 w13 =>
              Run Tryd.prog (binSem Go.BinOp.mul 3 (Go.Operand.const (Go.Value.int Go.IntKind.i64 1000000)) (Go.Operand.tmp 34) (Go.Value.int Go.IntKind.i64 1000000) t34) w13 fun t35 w14 =>
              Run Tryd.prog (binSem Go.BinOp.add 3 (Go.Operand.tmp 35) (Go.Operand.tmp 36) t35 i_4) w14 fun t37 w15 =>
              Run Tryd.prog (convert 3 74 t37) w15 fun t38 w16 =>
              Run Tryd.prog (Instr.build 165 #[(0, t38)]) w16 fun t39 w17 =>
              Run Tryd.prog (Instr.indexAt 163 t31 i_4) w17 fun t40 w18 =>
              RunU Tryd.prog (Instr.storeAt 165 t40 t39) w18 fun w19 =>
              k10 w19)
            (fun (w20 : World) => 
            Run Tryd.prog (binSem Go.BinOp.add 3 (Go.Operand.tmp 26) (Go.Operand.const (Go.Value.int Go.IntKind.i64 1)) i_4 (Go.Value.int Go.IntKind.i64 1)) w20 fun t27 w21 =>
            k7 t27 w21))))
          [(Go.Value.int Go.IntKind.i64 0)] w4)
        (fun (i_4 : Value) (w22 : World) => 
        k5 w22))
      (fun (w23 : World) => 
      Run Tryd.prog (binSem Go.BinOp.add 3 (Go.Operand.tmp 17) (Go.Operand.const (Go.Value.int Go.IntKind.i64 1)) k_3 (Go.Value.int Go.IntKind.i64 1)) w23 fun t18 w24 =>
      k2 t18 w24))))
    [(Go.Value.int Go.IntKind.i64 0)] w)
  (fun (k_3 : Value) (w25 : World) => 
  JoinP 2 (fun (k11 : N2) =>
    LoopP 2 (fun (k12 : N2) => (fun (gs_5 : Value) (k_6 : Value) (w26 : World) => 
      Run Tryd.prog (Builtin.len_ #[64] 3 #[ls_0]) w26 fun t43 w27 =>
      Run Tryd.prog (binSem Go.BinOp.lss 3 (Go.Operand.tmp 41) (Go.Operand.tmp 43) k_6 t43) w27 fun t44 w28 =>
      CondP t44 0 (fun (k13 : N0) =>
        k13 w28)
      (fun (k14 : N0) =>
        k11 gs_5 k_6 w28)
      (fun (w29 : World) => 
      JoinP 1 (fun (k15 : N1) =>
        Run Tryd.prog (Instr.indexAt 64 ls_0 k_6) w29 fun t49 w30 =>
        Run Tryd.prog (Instr.loadAt 163 t49) w30 fun t50 w31 =>
        JoinP 2 (fun (k16 : N2) =>
          LoopP 2 (fun (k17 : N2) => (fun (g_7 : Value) (i_8 : Value) (w32 : World) => 
            Run Tryd.prog (binSem Go.BinOp.lss 3 (Go.Operand.tmp 51) (Go.Operand.const (Go.Value.int Go.IntKind.i64 64)) i_8 (Go.Value.int Go.IntKind.i64 64)) w32 fun t52 w33 =>
            CondP t52 0 (fun (k18 : N0) =>
              k18 w33)
            (fun (k19 : N0) =>
              k16 g_7 i_8 w33)
            (fun (w34 : World) => 
            JoinP 1 (fun (k20 : N1) =>
              Run Tryd.prog (Instr.indexAt 64 ls_0 k_6) w34 fun t57 w35 =>
              Run Tryd.prog (Instr.loadAt 163 t57) w35 fun t58 w36 =>
              Run Tryd.prog (Builtin.len_ #[163] 3 #[t58]) w36 fun t59 w37 =>
              Run Tryd.prog (binSem Go.BinOp.add 3 (Go.Operand.tmp 59) (Go.Operand.tmp 60) t59 i_8) w37 fun t61 w38 =>
              Run Tryd.prog (binSem Go.BinOp.add 3 (Go.Operand.tmp 63) (Go.Operand.const (Go.Value.int Go.IntKind.i64 1)) k_6 (Go.Value.int Go.IntKind.i64 1)) w38 fun t64 w39 =>
              Run Tryd.prog (binSem Go.BinOp.mul 3 (Go.Operand.const (Go.Value.int Go.IntKind.i64 1000000)) (Go.Operand.tmp 64) (Go.Value.int Go.IntKind.i64 1000000) t64) w39 fun t65 w40 =>
              Run Tryd.prog (binSem Go.BinOp.add 3 (Go.Operand.tmp 65) (Go.Operand.tmp 66) t65 t61) w40 fun t67 w41 =>
              Run Tryd.prog (convert 3 74 t67) w41 fun t68 w42 =>
              Run Tryd.prog (Instr.build 165 #[(0, t68)]) w42 fun t69 w43 =>
              Run Tryd.prog (Instr.buildSlice 163 1 #[(0, t69)]) w43 fun t70 w44 =>
              Run Tryd.prog (Builtin.append_ #[163, 163] 163 #[g_7, t70]) w44 fun t71 w45 =>
              k20 t71 w45)
            (fun (g_7 : Value) (w46 : World) => 
            Run Tryd.prog (binSem Go.BinOp.add 3 (Go.Operand.tmp 53) (Go.Operand.const (Go.Value.int Go.IntKind.i64 1)) i_8 (Go.Value.int Go.IntKind.i64 1)) w46 fun t54 w47 =>
            k17 g_7 t54 w47))))
          [t50, (Go.Value.int Go.IntKind.i64 0)] w31)
        (fun (g_7 : Value) (i_8 : Value) (w48 : World) => 
        Run Tryd.prog (Instr.buildSlice 64 1 #[(0, g_7)]) w48 fun t74 w49 =>
        Run Tryd.prog (Builtin.append_ #[64, 64] 64 #[gs_5, t74]) w49 fun t75 w50 =>
        k15 t75 w50))
      (fun (gs_5 : Value) (w51 : World) => 
      Run Tryd.prog (binSem Go.BinOp.add 3 (Go.Operand.tmp 45) (Go.Operand.const (Go.Value.int Go.IntKind.i64 1)) k_6 (Go.Value.int Go.IntKind.i64 1)) w51 fun t46 w52 =>
      k12 gs_5 t46 w52))))
    [(Go.Value.slice none 0 0), (Go.Value.int Go.IntKind.i64 0)] w25)
  (fun (gs_5 : Value) (k_6 : Value) (w53 : World) => 
  JoinP 2 (fun (k21 : N2) =>
    LoopP 2 (fun (k22 : N2) => (fun (t2 : Value) (k_10 : Value) (w54 : World) => 
      Run Tryd.prog (Builtin.len_ #[64] 3 #[ls_0]) w54 fun t78 w55 =>
      Run Tryd.prog (binSem Go.BinOp.lss 3 (Go.Operand.tmp 76) (Go.Operand.tmp 78) k_10 t78) w55 fun t79 w56 =>
      CondP t79 0 (fun (k23 : N0) =>
        k23 w56)
      (fun (k24 : N0) =>
        k21 t2 k_10 w56)
      (fun (w57 : World) => 
      JoinP 1 (fun (k25 : N1) =>
        JoinP 2 (fun (k26 : N2) =>
          LoopP 2 (fun (k27 : N2) => (fun (t2 : Value) (i_11 : Value) (w58 : World) => 
            Run Tryd.prog (Instr.indexAt 64 gs_5 k_10) w58 fun t85 w59 =>
            Run Tryd.prog (Instr.loadAt 163 t85) w59 fun t86 w60 =>
            Run Tryd.prog (Builtin.len_ #[163] 3 #[t86]) w60 fun t87 w61 =>
            Run Tryd.prog (binSem Go.BinOp.lss 3 (Go.Operand.tmp 82) (Go.Operand.tmp 87) i_11 t87) w61 fun t88 w62 =>
            CondP t88 0 (fun (k28 : N0) =>
              k28 w62)
            (fun (k29 : N0) =>
              k26 t2 i_11 w62)
            (fun (w63 : World) => 
            JoinP 1 (fun (k30 : N1) =>
              Run Tryd.prog (binSem Go.BinOp.add 3 (Go.Operand.tmp 91) (Go.Operand.const (Go.Value.int Go.IntKind.i64 1)) k_10 (Go.Value.int Go.IntKind.i64 1)) w63 fun t92 w64 =>
              Run Tryd.prog (binSem Go.BinOp.mul 3 (Go.Operand.const (Go.Value.int Go.IntKind.i64 1000000)) (Go.Operand.tmp 92) (Go.Value.int Go.IntKind.i64 1000000) t92) w64 fun t93 w65 =>
              Run Tryd.prog (binSem Go.BinOp.add 3 (Go.Operand.tmp 93) (Go.Operand.tmp 94) t93 i_11) w65 fun t95 w66 =>
              Run Tryd.prog (convert 3 74 t95) w66 fun t96 w67 =>
              Run Tryd.prog (Instr.indexAt 64 gs_5 k_10) w67 fun t99 w68 =>
              Run Tryd.prog (Instr.loadAt 163 t99) w68 fun t100 w69 =>
              Run Tryd.prog (Instr.indexAt 163 t100 i_11) w69 fun t102 w70 =>
              Run Tryd.prog (Instr.fieldAt 165 t102 0) w70 fun t103 w71 =>
              Run Tryd.prog (Instr.loadAt 74 t103) w71 fun t104 w72 =>
              Run Tryd.prog (binSem Go.BinOp.neq 74 (Go.Operand.tmp 104) (Go.Operand.tmp 105) t104 t96) w72 fun t106 w73 =>
              GuardP t106 false (fun (k31 : N1) => k31 i_11 w73) w73 fun t108 w74 =>
              GuardP t106 false (fun (k32 : N1) => k32 ls_0 w74) w74 fun t109 w75 =>
              GuardP t106 false (fun (k33 : N1) => k33 k_10 w75) w75 fun t110 w76 =>
              GuardP t106 false (fun (k34 : N1) => Run Tryd.prog (Instr.indexAt 64 t109 t110) w76 k34) w76 fun t111 w77 =>
              GuardP t106 false (fun (k35 : N1) => Run Tryd.prog (Instr.loadAt 163 t111) w77 k35) w77 fun t112 w78 =>
              GuardP t106 false (fun (k36 : N1) => Run Tryd.prog (Builtin.len_ #[163] 3 #[t112]) w78 k36) w78 fun t113 w79 =>
              GuardP t106 false (fun (k37 : N1) => Run Tryd.prog (binSem Go.BinOp.lss 3 (Go.Operand.tmp 108) (Go.Operand.tmp 113) t108 t113) w79 k37) w79 fun t114 w80 =>
              GuardP t106 false (fun (k38 : N1) => k38 t114 w80) w80 fun t115 w81 =>
              GuardP t115 true (fun (k39 : N1) => k39 ls_0 w81) w81 fun t116 w82 =>
              GuardP t115 true (fun (k40 : N1) => k40 k_10 w82) w82 fun t117 w83 =>
              GuardP t115 true (fun (k41 : N1) => Run Tryd.prog (Instr.indexAt 64 t116 t117) w83 k41) w83 fun t118 w84 =>
              GuardP t115 true (fun (k42 : N1) => Run Tryd.prog (Instr.loadAt 163 t118) w84 k42) w84 fun t119 w85 =>
              GuardP t115 true (fun (k43 : N1) => k43 i_11 w85) w85 fun t120 w86 =>
              GuardP t115 true (fun (k44 : N1) => Run Tryd.prog (Instr.indexAt 163 t119 t120) w86 k44) w86 fun t121 w87 =>
              GuardP t115 true (fun (k45 : N1) => Run Tryd.prog (Instr.fieldAt 165 t121 0) w87 k45) w87 fun t122 w88 =>
              GuardP t115 true (fun (k46 : N1) => Run Tryd.prog (Instr.loadAt 74 t122) w88 k46) w88 fun t123 w89 =>
              GuardP t115 true (fun (k47 : N1) => k47 t96 w89) w89 fun t124 w90 =>
              GuardP t115 true (fun (k48 : N1) => Run Tryd.prog (binSem Go.BinOp.neq 74 (Go.Operand.tmp 123) (Go.Operand.tmp 124) t123 t124) w90 k48) w90 fun t125 w91 =>
              GuardP t106 false (fun (k49 : N1) => PickP t115 t125 (Go.Value.bool false) w91 k49) w91 fun t126 w92 =>
              PickP t106 (Go.Value.bool true) t126 w92 fun t127 w93 =>
              CondP t127 1 (fun (k50 : N1) =>
                R (Go.Value.bool false) w93)
              (fun (k51 : N1) =>
                k51 t2 w93)
              (fun (t2 : Value) (w94 : World) => 
              k30 t2 w94))
            (fun (t2 : Value) (w95 : World) => 
            Run Tryd.prog (binSem Go.BinOp.add 3 (Go.Operand.tmp 89) (Go.Operand.const (Go.Value.int Go.IntKind.i64 1)) i_11 (Go.Value.int Go.IntKind.i64 1)) w95 fun t90 w96 =>
            k27 t2 t90 w96))))
          [t2, (Go.Value.int Go.IntKind.i64 0)] w57)
        (fun (t2 : Value) (i_11 : Value) (w97 : World) => 
        k25 t2 w97))
      (fun (t2 : Value) (w98 : World) => 
      Run Tryd.prog (binSem Go.BinOp.add 3 (Go.Operand.tmp 80) (Go.Operand.const (Go.Value.int Go.IntKind.i64 1)) k_10 (Go.Value.int Go.IntKind.i64 1)) w98 fun t81 w99 =>
      k22 t2 t81 w99))))
    [(Go.Value.bool false), (Go.Value.int Go.IntKind.i64 0)] w53)
  (fun (t2 : Value) (k_10 : Value) (w100 : World) => 
  R (Go.Value.bool true) w100)))
theorem S44_eq (ls_0 : Value) (w : World) (R : Value → World → Prop) : vcFn Tryd.prog Tryd.f44 [ls_0] w R = S44 ls_0 w R := by kernel_rfl
theorem D44 {ls_0 : Value} {w : World} {R : Value → World → Prop} (h : S44 ls_0 w R) : Does Tryd.prog 44 [ls_0] w R :=
  does_of_vc mixed Tryd.func44 (by kernel_rfl) (by kernel_rfl) ((S44_eq ls_0 w R).mpr h)

/-- busbar/busbarkit.apartLines -/
def S45 (ls_0 : Value) (w : World) (R : Value → World → Prop) : Prop :=
  JoinP 1 (fun (k1 : N1) =>
    LoopP 1 (fun (k2 : N1) => (fun (k_3 : Value) (w1 : World) => 
      Run Tryd.prog (Builtin.len_ #[65] 3 #[ls_0]) w1 fun t15 w2 =>
      Run Tryd.prog (binSem Go.BinOp.lss 3 (Go.Operand.tmp 13) (Go.Operand.tmp 15) k_3 t15) w2 fun t16 w3 =>
      CondP t16 0 (fun (k3 : N0) =>
        k3 w3)
      (fun (k4 : N0) =>
        k1 k_3 w3)
      (fun (w4 : World) => 
      JoinP 0 (fun (k5 : N0) =>
        JoinP 1 (fun (k6 : N1) =>
          LoopP 1 (fun (k7 : N1) => (fun (i_4 : Value) (w5 : World) => 
            Run Tryd.prog (Instr.indexAt 65 ls_0 k_3) w5 fun t22 w6 =>
            Run Tryd.prog (Instr.loadAt 166 t22) w6 fun t23 w7 =>
            Run Tryd.prog (Builtin.len_ #[166] 3 #[t23]) w7 fun t24 w8 =>
            Run Tryd.prog (binSem Go.BinOp.lss 3 (Go.Operand.tmp 19) (Go.Operand.tmp 24) i_4 t24) w8 fun t25 w9 =>
            CondP t25 0 (fun (k8 : N0) =>
              k8 w9)
            (fun (k9 : N0) =>
              k6 i_4 w9)
            (fun (w10 : World) => 
            JoinP 0 (fun (k10 : N0) =>
              Run Tryd.prog (Instr.indexAt 65 ls_0 k_3) w10 fun t30 w11 =>
              Run Tryd.prog (Instr.loadAt 166 t30) w11 fun t31 w12 =>
              Run Tryd.prog (binSem Go.BinOp.add 3 (Go.Operand.tmp 33) (Go.Operand.const (Go.Value.int Go.IntKind.i64 1)) k_3 (Go.Value.int Go.IntKind.i64 1)) w12 fun t34 w13 =>
              Run Tryd.prog (binSem Go.BinOp.mul 3 (Go.Operand.const (Go.Value.int Go.IntKind.i64 1000000)) (Go.Operand.tmp 34) (Go.Value.int Go.IntKind.i64 1000000) t34) w13 fun t35 w14 =>
              Run Tryd.prog (binSem Go.BinOp.add 3 (Go.Operand.tmp 35) (Go.Operand.tmp 36) t35 i_4) w14 fun t37 w15 =>
              Run Tryd.prog (convert 3 126 t37) w15 fun t38 w16 =>
              Run Tryd.prog (Instr.build 168 #[(0, t38)]) w16 fun t39 w17 =>
              Run Tryd.prog (Instr.indexAt 166 t31 i_4) w17 fun t40 w18 =>
              RunU Tryd.prog (Instr.storeAt 168 t40 t39) w18 fun w19 =>
              k10 w19)
            (fun (w20 : World) => 
            Run Tryd.prog (binSem Go.BinOp.add 3 (Go.Operand.tmp 26) (Go.Operand.const (Go.Value.int Go.IntKind.i64 1)) i_4 (Go.Value.int Go.IntKind.i64 1)) w20 fun t27 w21 =>
            k7 t27 w21))))
          [(Go.Value.int Go.IntKind.i64 0)] w4)
        (fun (i_4 : Value) (w22 : World) => 
        k5 w22))
      (fun (w23 : World) => 
      Run Tryd.prog (binSem Go.BinOp.add 3 (Go.Operand.tmp 17) (Go.Operand.const (Go.Value.int Go.IntKind.i64 1)) k_3 (Go.Value.int Go.IntKind.i64 1)) w23 fun t18 w24 =>
      k2 t18 w24))))
    [(Go.Value.int Go.IntKind.i64 0)] w)
  (fun (k_3 : Value) (w25 : World) => 
  JoinP 2 (fun (k11 : N2) =>
    LoopP 2 (fun (k12 : N2) => (fun (gs_5 : Value) (k_6 : Value) (w26 : World) => 
      Run Tryd.prog (Builtin.len_ #[65] 3 #[ls_0]) w26 fun t43 w27 =>
      Run Tryd.prog (binSem Go.BinOp.lss 3 (Go.Operand.tmp 41) (Go.Operand.tmp 43) k_6 t43) w27 fun t44 w28 =>
      CondP t44 0 (fun (k13 : N0) =>
        k13 w28)
      (fun (k14 : N0) =>
        k11 gs_5 k_6 w28)
      (fun (w29 : World) => 
      JoinP 1 (fun (k15 : N1) =>
        Run Tryd.prog (Instr.indexAt 65 ls_0 k_6) w29 fun t49 w30 =>
        Run Tryd.prog (Instr.loadAt 166 t49) w30 fun t50 w31 =>
        JoinP 2 (fun (k16 : N2) =>
          LoopP 2 (fun (k17 : N2) => (fun (g_7 : Value) (i_8 : Value) (w32 : World) => 
            Run Tryd.prog (binSem Go.BinOp.lss 3 (Go.Operand.tmp 51) (Go.Operand.const (Go.Value.int Go.IntKind.i64 64)) i_8 (Go.Value.int Go.IntKind.i64 64)) w32 fun t52 w33 =>
            CondP t52 0 (fun (k18 : N0) =>
              k18 w33)
            (fun (k19 : N0) =>
              k16 g_7 i_8 w33)
            (fun (w34 : World) => 
            JoinP 1 (fun (k20 : N1) =>
              Run Tryd.prog (Instr.indexAt 65 ls_0 k_6) w34 fun t57 w35 =>
              Run Tryd.prog (Instr.loadAt 166 t57) w35 fun t58 w36 =>
              Run Tryd.prog (Builtin.len_ #[166] 3 #[t58]) w36 fun t59 w37 =>
              Run Tryd.prog (binSem Go.BinOp.add 3 (Go.Operand.tmp 59) (Go.Operand.tmp 60) t59 i_8) w37 fun t61 w38 =>
              Run Tryd.prog (binSem Go.BinOp.add 3 (Go.Operand.tmp 63) (Go.Operand.const (Go.Value.int Go.IntKind.i64 1)) k_6 (Go.Value.int Go.IntKind.i64 1)) w38 fun t64 w39 =>
              Run Tryd.prog (binSem Go.BinOp.mul 3 (Go.Operand.const (Go.Value.int Go.IntKind.i64 1000000)) (Go.Operand.tmp 64) (Go.Value.int Go.IntKind.i64 1000000) t64) w39 fun t65 w40 =>
              Run Tryd.prog (binSem Go.BinOp.add 3 (Go.Operand.tmp 65) (Go.Operand.tmp 66) t65 t61) w40 fun t67 w41 =>
              Run Tryd.prog (convert 3 126 t67) w41 fun t68 w42 =>
              Run Tryd.prog (Instr.build 168 #[(0, t68)]) w42 fun t69 w43 =>
              Run Tryd.prog (Instr.buildSlice 166 1 #[(0, t69)]) w43 fun t70 w44 =>
              Run Tryd.prog (Builtin.append_ #[166, 166] 166 #[g_7, t70]) w44 fun t71 w45 =>
              k20 t71 w45)
            (fun (g_7 : Value) (w46 : World) => 
            Run Tryd.prog (binSem Go.BinOp.add 3 (Go.Operand.tmp 53) (Go.Operand.const (Go.Value.int Go.IntKind.i64 1)) i_8 (Go.Value.int Go.IntKind.i64 1)) w46 fun t54 w47 =>
            k17 g_7 t54 w47))))
          [t50, (Go.Value.int Go.IntKind.i64 0)] w31)
        (fun (g_7 : Value) (i_8 : Value) (w48 : World) => 
        Run Tryd.prog (Instr.buildSlice 65 1 #[(0, g_7)]) w48 fun t74 w49 =>
        Run Tryd.prog (Builtin.append_ #[65, 65] 65 #[gs_5, t74]) w49 fun t75 w50 =>
        k15 t75 w50))
      (fun (gs_5 : Value) (w51 : World) => 
      Run Tryd.prog (binSem Go.BinOp.add 3 (Go.Operand.tmp 45) (Go.Operand.const (Go.Value.int Go.IntKind.i64 1)) k_6 (Go.Value.int Go.IntKind.i64 1)) w51 fun t46 w52 =>
      k12 gs_5 t46 w52))))
    [(Go.Value.slice none 0 0), (Go.Value.int Go.IntKind.i64 0)] w25)
  (fun (gs_5 : Value) (k_6 : Value) (w53 : World) => 
  JoinP 2 (fun (k21 : N2) =>
    LoopP 2 (fun (k22 : N2) => (fun (t2 : Value) (k_10 : Value) (w54 : World) => 
      Run Tryd.prog (Builtin.len_ #[65] 3 #[ls_0]) w54 fun t78 w55 =>
      Run Tryd.prog (binSem Go.BinOp.lss 3 (Go.Operand.tmp 76) (Go.Operand.tmp 78) k_10 t78) w55 fun t79 w56 =>
      CondP t79 0 (fun (k23 : N0) =>
        k23 w56)
      (fun (k24 : N0) =>
        k21 t2 k_10 w56)
      (fun (w57 : World) => 
      JoinP 1 (fun (k25 : N1) =>
        JoinP 2 (fun (k26 : N2) =>
          LoopP 2 (fun (k27 : N2) => (fun (t2 : Value) (i_11 : Value) (w58 : World) => 
            Run Tryd.prog (Instr.indexAt 65 gs_5 k_10) w58 fun t85 w59 =>
            Run Tryd.prog (Instr.loadAt 166 t85) w59 fun t86 w60 =>
            Run Tryd.prog (Builtin.len_ #[166] 3 #[t86]) w60 fun t87 w61 =>
            Run Tryd.prog (binSem Go.BinOp.lss 3 (Go.Operand.tmp 82) (Go.Operand.tmp 87) i_11 t87) w61 fun t88 w62 =>
            CondP t88 0 (fun (k28 : N0) =>
              k28 w62)
            (fun (k29 : N0) =>
              k26 t2 i_11 w62)
            (fun (w63 : World) => 
            JoinP 1 (fun (k30 : N1) =>
              Run Tryd.prog (binSem Go.BinOp.add 3 (Go.Operand.tmp 91) (Go.Operand.const (Go.Value.int Go.IntKind.i64 1)) k_10 (Go.Value.int Go.IntKind.i64 1)) w63 fun t92 w64 =>
              Run Tryd.prog (binSem Go.BinOp.mul 3 (Go.Operand.const (Go.Value.int Go.IntKind.i64 1000000)) (Go.Operand.tmp 92) (Go.Value.int Go.IntKind.i64 1000000) t92) w64 fun t93 w65 =>
              Run Tryd.prog (binSem Go.BinOp.add 3 (Go.Operand.tmp 93) (Go.Operand.tmp 94) t93 i_11) w65 fun t95 w66 =>
              Run Tryd.prog (convert 3 126 t95) w66 fun t96 w67 =>
              Run Tryd.prog (Instr.indexAt 65 gs_5 k_10) w67 fun t99 w68 =>
              Run Tryd.prog (Instr.loadAt 166 t99) w68 fun t100 w69 =>
              Run Tryd.prog (Instr.indexAt 166 t100 i_11) w69 fun t102 w70 =>
              Run Tryd.prog (Instr.fieldAt 168 t102 0) w70 fun t103 w71 =>
              Run Tryd.prog (Instr.loadAt 126 t103) w71 fun t104 w72 =>
              Run Tryd.prog (binSem Go.BinOp.neq 126 (Go.Operand.tmp 104) (Go.Operand.tmp 105) t104 t96) w72 fun t106 w73 =>
              GuardP t106 false (fun (k31 : N1) => k31 i_11 w73) w73 fun t108 w74 =>
              GuardP t106 false (fun (k32 : N1) => k32 ls_0 w74) w74 fun t109 w75 =>
              GuardP t106 false (fun (k33 : N1) => k33 k_10 w75) w75 fun t110 w76 =>
              GuardP t106 false (fun (k34 : N1) => Run Tryd.prog (Instr.indexAt 65 t109 t110) w76 k34) w76 fun t111 w77 =>
              GuardP t106 false (fun (k35 : N1) => Run Tryd.prog (Instr.loadAt 166 t111) w77 k35) w77 fun t112 w78 =>
              GuardP t106 false (fun (k36 : N1) => Run Tryd.prog (Builtin.len_ #[166] 3 #[t112]) w78 k36) w78 fun t113 w79 =>
              GuardP t106 false (fun (k37 : N1) => Run Tryd.prog (binSem Go.BinOp.lss 3 (Go.Operand.tmp 108) (Go.Operand.tmp 113) t108 t113) w79 k37) w79 fun t114 w80 =>
              GuardP t106 false (fun (k38 : N1) => k38 t114 w80) w80 fun t115 w81 =>
              GuardP t115 true (fun (k39 : N1) => k39 ls_0 w81) w81 fun t116 w82 =>
              GuardP t115 true (fun (k40 : N1) => k40 k_10 w82) w82 fun t117 w83 =>
              GuardP t115 true (fun (k41 : N1) => Run Tryd.prog (Instr.indexAt 65 t116 t117) w83 k41) w83 fun t118 w84 =>
              GuardP t115 true (fun (k42 : N1) => Run Tryd.prog (Instr.loadAt 166 t118) w84 k42) w84 fun t119 w85 =>
              GuardP t115 true (fun (k43 : N1) => k43 i_11 w85) w85 fun t120 w86 =>
              GuardP t115 true (fun (k44 : N1) => Run Tryd.prog (Instr.indexAt 166 t119 t120) w86 k44) w86 fun t121 w87 =>
              GuardP t115 true (fun (k45 : N1) => Run Tryd.prog (Instr.fieldAt 168 t121 0) w87 k45) w87 fun t122 w88 =>
              GuardP t115 true (fun (k46 : N1) => Run Tryd.prog (Instr.loadAt 126 t122) w88 k46) w88 fun t123 w89 =>
              GuardP t115 true (fun (k47 : N1) => k47 t96 w89) w89 fun t124 w90 =>
              GuardP t115 true (fun (k48 : N1) => Run Tryd.prog (binSem Go.BinOp.neq 126 (Go.Operand.tmp 123) (Go.Operand.tmp 124) t123 t124) w90 k48) w90 fun t125 w91 =>
              GuardP t106 false (fun (k49 : N1) => PickP t115 t125 (Go.Value.bool false) w91 k49) w91 fun t126 w92 =>
              PickP t106 (Go.Value.bool true) t126 w92 fun t127 w93 =>
              CondP t127 1 (fun (k50 : N1) =>
                R (Go.Value.bool false) w93)
              (fun (k51 : N1) =>
                k51 t2 w93)
              (fun (t2 : Value) (w94 : World) => 
              k30 t2 w94))
            (fun (t2 : Value) (w95 : World) => 
            Run Tryd.prog (binSem Go.BinOp.add 3 (Go.Operand.tmp 89) (Go.Operand.const (Go.Value.int Go.IntKind.i64 1)) i_11 (Go.Value.int Go.IntKind.i64 1)) w95 fun t90 w96 =>
            k27 t2 t90 w96))))
          [t2, (Go.Value.int Go.IntKind.i64 0)] w57)
        (fun (t2 : Value) (i_11 : Value) (w97 : World) => 
        k25 t2 w97))
      (fun (t2 : Value) (w98 : World) => 
      Run Tryd.prog (binSem Go.BinOp.add 3 (Go.Operand.tmp 80) (Go.Operand.const (Go.Value.int Go.IntKind.i64 1)) k_10 (Go.Value.int Go.IntKind.i64 1)) w98 fun t81 w99 =>
      k22 t2 t81 w99))))
    [(Go.Value.bool false), (Go.Value.int Go.IntKind.i64 0)] w53)
  (fun (t2 : Value) (k_10 : Value) (w100 : World) => 
  R (Go.Value.bool true) w100)))
theorem S45_eq (ls_0 : Value) (w : World) (R : Value → World → Prop) : vcFn Tryd.prog Tryd.f45 [ls_0] w R = S45 ls_0 w R := by kernel_rfl
theorem D45 {ls_0 : Value} {w : World} {R : Value → World → Prop} (h : S45 ls_0 w R) : Does Tryd.prog 45 [ls_0] w R :=
  does_of_vc mixed Tryd.func45 (by kernel_rfl) (by kernel_rfl) ((S45_eq ls_0 w R).mpr h)

/-- busbar/busbarref0.SameTexts -/
def S46 (a_0 b_1 : Value) (w : World) (R : Value → World → Prop) : Prop :=
  Run Tryd.prog (Builtin.len_ #[26] 3 #[a_0]) w fun t7 w1 =>
  Run Tryd.prog (Builtin.len_ #[26] 3 #[b_1]) w1 fun t9 w2 =>
  Run Tryd.prog (binSem Go.BinOp.neq 3 (Go.Operand.tmp 7) (Go.Operand.tmp 9) t7 t9) w2 fun t10 w3 =>
  CondP t10 1 (fun (k1 : N1) =>
    R (Go.Value.bool false) w3)
  (fun (k2 : N1) =>
    k2 (Go.Value.bool false) w3)
  (fun (t4 : Value) (w4 : World) => 
  JoinP 2 (fun (k3 : N2) =>
    LoopP 2 (fun (k4 : N2) => (fun (t4 : Value) (i_5 : Value) (w5 : World) => 
      Run Tryd.prog (Builtin.len_ #[26] 3 #[a_0]) w5 fun t13 w6 =>
      Run Tryd.prog (binSem Go.BinOp.lss 3 (Go.Operand.tmp 11) (Go.Operand.tmp 13) i_5 t13) w6 fun t14 w7 =>
      CondP t14 0 (fun (k5 : N0) =>
        k5 w7)
      (fun (k6 : N0) =>
        k3 t4 i_5 w7)
      (fun (w8 : World) => 
      JoinP 1 (fun (k7 : N1) =>
        ∀ w9, Ext w8 w9 →
        RunQ Tryd.prog (Instr.indexAt 26 a_0 i_5) w9 fun t19 =>
        RunQ Tryd.prog (Instr.loadAt 9 t19) w9 fun t20 =>
        RunQ Tryd.prog (Instr.indexAt 26 b_1 i_5) w9 fun t23 =>
        RunQ Tryd.prog (Instr.loadAt 9 t23) w9 fun t24 =>
        RunQ Tryd.prog (binSem Go.BinOp.neq 9 (Go.Operand.tmp 20) (Go.Operand.tmp 24) t20 t24) w9 fun t25 =>
        CondP t25 1 (fun (k8 : N1) =>
          R (Go.Value.bool false) w9)
        (fun (k9 : N1) =>
          k9 t4 w9)
        (fun (t4 : Value) (w10 : World) => 
        k7 t4 w10))
      (fun (t4 : Value) (w11 : World) => 
      Run Tryd.prog (binSem Go.BinOp.add 3 (Go.Operand.tmp 15) (Go.Operand.const (Go.Value.int Go.IntKind.i64 1)) i_5 (Go.Value.int Go.IntKind.i64 1)) w11 fun t16 w12 =>
      k4 t4 t16 w12))))
    [t4, (Go.Value.int Go.IntKind.i64 0)] w4)
  (fun (t4 : Value) (i_5 : Value) (w13 : World) => 
  R (Go.Value.bool true) w13))
theorem S46_eq (a_0 b_1 : Value) (w : World) (R : Value → World → Prop) : vcFn Tryd.prog Tryd.f46 [a_0, b_1] w R = S46 a_0 b_1 w R := by kernel_rfl
theorem D46 {a_0 b_1 : Value} {w : World} {R : Value → World → Prop} (h : S46 a_0 b_1 w R) : Does Tryd.prog 46 [a_0, b_1] w R :=
  does_of_vc mixed Tryd.func46 (by kernel_rfl) (by kernel_rfl) ((S46_eq a_0 b_1 w R).mpr h)

/-- busbar/busbarref0.SameSignals -/
def S47 (a_0 b_1 : Value) (w : World) (R : Value → World → Prop) : Prop :=
  Run Tryd.prog (Builtin.len_ #[75] 3 #[a_0]) w fun t7 w1 =>
  Run Tryd.prog (Builtin.len_ #[75] 3 #[b_1]) w1 fun t9 w2 =>
  Run Tryd.prog (binSem Go.BinOp.neq 3 (Go.Operand.tmp 7) (Go.Operand.tmp 9) t7 t9) w2 fun t10 w3 =>
  CondP t10 1 (fun (k1 : N1) =>
    R (Go.Value.bool false) w3)
  (fun (k2 : N1) =>
    k2 (Go.Value.bool false) w3)
  (fun (t4 : Value) (w4 : World) => 
  JoinP 2 (fun (k3 : N2) =>
    LoopP 2 (fun (k4 : N2) => (fun (t4 : Value) (i_5 : Value) (w5 : World) => 
      Run Tryd.prog (Builtin.len_ #[75] 3 #[a_0]) w5 fun t13 w6 =>
      Run Tryd.prog (binSem Go.BinOp.lss 3 (Go.Operand.tmp 11) (Go.Operand.tmp 13) i_5 t13) w6 fun t14 w7 =>
      CondP t14 0 (fun (k5 : N0) =>
        k5 w7)
      (fun (k6 : N0) =>
        k3 t4 i_5 w7)
      (fun (w8 : World) => 
      JoinP 1 (fun (k7 : N1) =>
        ∀ w9, Ext w8 w9 →
        RunQ Tryd.prog (Instr.indexAt 75 a_0 i_5) w9 fun t19 =>
        RunQ Tryd.prog (Instr.loadAt 130 t19) w9 fun t20 =>
        RunQ Tryd.prog (Instr.indexAt 75 b_1 i_5) w9 fun t23 =>
        RunQ Tryd.prog (Instr.loadAt 130 t23) w9 fun t24 =>
        GoN Tryd.prog (callFunc 67 #[t20, t24]) w9 fun t25 w10 => Ext w9 w10 ∧
        RunQ Tryd.prog (Op.unary Go.UnOp.not t25) w9 fun t26 =>
        CondP t26 1 (fun (k8 : N1) =>
          R (Go.Value.bool false) w10)
        (fun (k9 : N1) =>
          k9 t4 w10)
        (fun (t4 : Value) (w11 : World) => 
        k7 t4 w11))
      (fun (t4 : Value) (w12 : World) => 
      Run Tryd.prog (binSem Go.BinOp.add 3 (Go.Operand.tmp 15) (Go.Operand.const (Go.Value.int Go.IntKind.i64 1)) i_5 (Go.Value.int Go.IntKind.i64 1)) w12 fun t16 w13 =>
      k4 t4 t16 w13))))
    [t4, (Go.Value.int Go.IntKind.i64 0)] w4)
  (fun (t4 : Value) (i_5 : Value) (w14 : World) => 
  R (Go.Value.bool true) w14))
theorem S47_eq (a_0 b_1 : Value) (w : World) (R : Value → World → Prop) : vcFn Tryd.prog Tryd.f47 [a_0, b_1] w R = S47 a_0 b_1 w R := by kernel_rfl
theorem D47 {a_0 b_1 : Value} {w : World} {R : Value → World → Prop} (h : S47 a_0 b_1 w R) : Does Tryd.prog 47 [a_0, b_1] w R :=
  does_of_vc mixed Tryd.func47 (by kernel_rfl) (by kernel_rfl) ((S47_eq a_0 b_1 w R).mpr h)

/-- busbar/busbarref0.SameRows -/
def S48 (a_0 b_1 : Value) (w : World) (R : Value → World → Prop) : Prop :=
  Run Tryd.prog (Builtin.len_ #[79] 3 #[a_0]) w fun t7 w1 =>
  Run Tryd.prog (Builtin.len_ #[79] 3 #[b_1]) w1 fun t9 w2 =>
  Run Tryd.prog (binSem Go.BinOp.neq 3 (Go.Operand.tmp 7) (Go.Operand.tmp 9) t7 t9) w2 fun t10 w3 =>
  CondP t10 1 (fun (k1 : N1) =>
    R (Go.Value.bool false) w3)
  (fun (k2 : N1) =>
    k2 (Go.Value.bool false) w3)
  (fun (t4 : Value) (w4 : World) => 
  JoinP 2 (fun (k3 : N2) =>
    LoopP 2 (fun (k4 : N2) => (fun (t4 : Value) (i_5 : Value) (w5 : World) => 
      Run Tryd.prog (Builtin.len_ #[79] 3 #[a_0]) w5 fun t13 w6 =>
      Run Tryd.prog (binSem Go.BinOp.lss 3 (Go.Operand.tmp 11) (Go.Operand.tmp 13) i_5 t13) w6 fun t14 w7 =>
      CondP t14 0 (fun (k5 : N0) =>
        k5 w7)
      (fun (k6 : N0) =>
        k3 t4 i_5 w7)
      (fun (w8 : World) => 
      JoinP 1 (fun (k7 : N1) =>
        ∀ w9, Ext w8 w9 →
        RunQ Tryd.prog (Instr.indexAt 79 a_0 i_5) w9 fun t19 =>
        RunQ Tryd.prog (Instr.loadAt 133 t19) w9 fun t20 =>
        RunQ Tryd.prog (Instr.indexAt 79 b_1 i_5) w9 fun t23 =>
        RunQ Tryd.prog (Instr.loadAt 133 t23) w9 fun t24 =>
        RunQ Tryd.prog (binSem Go.BinOp.neq 133 (Go.Operand.tmp 20) (Go.Operand.tmp 24) t20 t24) w9 fun t25 =>
        CondP t25 1 (fun (k8 : N1) =>
          R (Go.Value.bool false) w9)
        (fun (k9 : N1) =>
          k9 t4 w9)
        (fun (t4 : Value) (w10 : World) => 
        k7 t4 w10))
      (fun (t4 : Value) (w11 : World) => 
      Run Tryd.prog (binSem Go.BinOp.add 3 (Go.Operand.tmp 15) (Go.Operand.const (Go.Value.int Go.IntKind.i64 1)) i_5 (Go.Value.int Go.IntKind.i64 1)) w11 fun t16 w12 =>
      k4 t4 t16 w12))))
    [t4, (Go.Value.int Go.IntKind.i64 0)] w4)
  (fun (t4 : Value) (i_5 : Value) (w13 : World) => 
  R (Go.Value.bool true) w13))
theorem S48_eq (a_0 b_1 : Value) (w : World) (R : Value → World → Prop) : vcFn Tryd.prog Tryd.f48 [a_0, b_1] w R = S48 a_0 b_1 w R := by kernel_rfl
theorem D48 {a_0 b_1 : Value} {w : World} {R : Value → World → Prop} (h : S48 a_0 b_1 w R) : Does Tryd.prog 48 [a_0, b_1] w R :=
  does_of_vc mixed Tryd.func48 (by kernel_rfl) (by kernel_rfl) ((S48_eq a_0 b_1 w R).mpr h)

/-- slices.Clone[[]string,string] -/
def S49 (s_0 : Value) (w : World) (R : Value → World → Prop) : Prop :=
  Run Tryd.prog (binSem Go.BinOp.eql 26 (Go.Operand.tmp 3) (Go.Operand.const (Go.Value.slice none 0 0)) s_0 (Go.Value.slice none 0 0)) w fun t4 w1 =>
  CondP t4 1 (fun (k1 : N1) =>
    R (Go.Value.slice none 0 0) w1)
  (fun (k2 : N1) =>
    k2 (Go.Value.slice none 0 0) w1)
  (fun (t2 : Value) (w2 : World) => 
  Run Tryd.prog (Instr.buildSlice 26 0 #[]) w2 fun t5 w3 =>
  Run Tryd.prog (Builtin.append_ #[26, 26] 26 #[t5, s_0]) w3 fun t7 w4 =>
  R t7 w4)
theorem S49_eq (s_0 : Value) (w : World) (R : Value → World → Prop) : vcFn Tryd.prog Tryd.f49 [s_0] w R = S49 s_0 w R := by kernel_rfl
theorem D49 {s_0 : Value} {w : World} {R : Value → World → Prop} (h : S49 s_0 w R) : Does Tryd.prog 49 [s_0] w R :=
  does_of_vc mixed Tryd.func49 (by kernel_rfl) (by kernel_rfl) ((S49_eq s_0 w R).mpr h)

/-- slices.Clone[[]busbar/api.Signal,busbar/api.Signal] -/
def S50 (s_0 : Value) (w : World) (R : Value → World → Prop) : Prop :=
  Run Tryd.prog (binSem Go.BinOp.eql 75 (Go.Operand.tmp 3) (Go.Operand.const (Go.Value.slice none 0 0)) s_0 (Go.Value.slice none 0 0)) w fun t4 w1 =>
  CondP t4 1 (fun (k1 : N1) =>
    R (Go.Value.slice none 0 0) w1)
  (fun (k2 : N1) =>
    k2 (Go.Value.slice none 0 0) w1)
  (fun (t2 : Value) (w2 : World) => 
  Run Tryd.prog (Instr.buildSlice 75 0 #[]) w2 fun t5 w3 =>
  Run Tryd.prog (Builtin.append_ #[75, 75] 75 #[t5, s_0]) w3 fun t7 w4 =>
  R t7 w4)
theorem S50_eq (s_0 : Value) (w : World) (R : Value → World → Prop) : vcFn Tryd.prog Tryd.f50 [s_0] w R = S50 s_0 w R := by kernel_rfl
theorem D50 {s_0 : Value} {w : World} {R : Value → World → Prop} (h : S50 s_0 w R) : Does Tryd.prog 50 [s_0] w R :=
  does_of_vc mixed Tryd.func50 (by kernel_rfl) (by kernel_rfl) ((S50_eq s_0 w R).mpr h)

/-- slices.Clone[[]busbar/api.Row,busbar/api.Row] -/
def S51 (s_0 : Value) (w : World) (R : Value → World → Prop) : Prop :=
  Run Tryd.prog (binSem Go.BinOp.eql 79 (Go.Operand.tmp 3) (Go.Operand.const (Go.Value.slice none 0 0)) s_0 (Go.Value.slice none 0 0)) w fun t4 w1 =>
  CondP t4 1 (fun (k1 : N1) =>
    R (Go.Value.slice none 0 0) w1)
  (fun (k2 : N1) =>
    k2 (Go.Value.slice none 0 0) w1)
  (fun (t2 : Value) (w2 : World) => 
  Run Tryd.prog (Instr.buildSlice 79 0 #[]) w2 fun t5 w3 =>
  Run Tryd.prog (Builtin.append_ #[79, 79] 79 #[t5, s_0]) w3 fun t7 w4 =>
  R t7 w4)
theorem S51_eq (s_0 : Value) (w : World) (R : Value → World → Prop) : vcFn Tryd.prog Tryd.f51 [s_0] w R = S51 s_0 w R := by kernel_rfl
theorem D51 {s_0 : Value} {w : World} {R : Value → World → Prop} (h : S51 s_0 w R) : Does Tryd.prog 51 [s_0] w R :=
  does_of_vc mixed Tryd.func51 (by kernel_rfl) (by kernel_rfl) ((S51_eq s_0 w R).mpr h)

/-- (*busbar/busbarkit.Book).Message -/
def S54 (b_0 s_1 : Value) (w : World) (R : Value → World → Prop) : Prop :=
  Run Tryd.prog (Instr.box 77 s_1) w fun s_3 w1 =>
  Run Tryd.prog (Instr.fieldAt 77 s_3 6) w1 fun t5 w2 =>
  Run Tryd.prog (Instr.loadAt 75 t5) w2 fun t6 w3 =>
  GoN Tryd.prog (callFunc 74 #[b_0, t6]) w3 fun t7 w4 =>
  R (.tuple #[]) w4
theorem S54_eq (b_0 s_1 : Value) (w : World) (R : Value → World → Prop) : vcFn Tryd.prog Tryd.f54 [b_0, s_1] w R = S54 b_0 s_1 w R := by kernel_rfl
theorem D54 {b_0 s_1 : Value} {w : World} {R : Value → World → Prop} (h : S54 b_0 s_1 w R) : Does Tryd.prog 54 [b_0, s_1] w R :=
  does_of_vc mixed Tryd.func54 (by kernel_rfl) (by kernel_rfl) ((S54_eq b_0 s_1 w R).mpr h)

/-- (*busbar/busbarkit.Book).Table -/
def S55 (b_0 s_1 : Value) (w : World) (R : Value → World → Prop) : Prop :=
  Run Tryd.prog (Instr.box 81 s_1) w fun s_3 w1 =>
  Run Tryd.prog (Instr.fieldAt 81 s_3 4) w1 fun t5 w2 =>
  Run Tryd.prog (Instr.loadAt 79 t5) w2 fun t6 w3 =>
  GoN Tryd.prog (callFunc 75 #[b_0, t6]) w3 fun t7 w4 =>
  R (.tuple #[]) w4
theorem S55_eq (b_0 s_1 : Value) (w : World) (R : Value → World → Prop) : vcFn Tryd.prog Tryd.f55 [b_0, s_1] w R = S55 b_0 s_1 w R := by kernel_rfl
theorem D55 {b_0 s_1 : Value} {w : World} {R : Value → World → Prop} (h : S55 b_0 s_1 w R) : Does Tryd.prog 55 [b_0, s_1] w R :=
  does_of_vc mixed Tryd.func55 (by kernel_rfl) (by kernel_rfl) ((S55_eq b_0 s_1 w R).mpr h)

/-- (*busbar/busbarkit.Book).Texts -/
def S56 (b_0 l_1 : Value) (w : World) (R : Value → World → Prop) : Prop :=
  Run Tryd.prog (nilSem b_0) w fun t6 w1 =>
  Run Tryd.prog (Instr.fieldAt 67 t6 1) w1 fun t7 w2 =>
  Run Tryd.prog (Instr.loadAt 52 t7) w2 fun t8 w3 =>
  Run Tryd.prog (Instr.buildSlice 52 1 #[(0, l_1)]) w3 fun t10 w4 =>
  Run Tryd.prog (Builtin.append_ #[52, 52] 52 #[t8, t10]) w4 fun t11 w5 =>
  Run Tryd.prog (nilSem b_0) w5 fun t12 w6 =>
  Run Tryd.prog (Instr.fieldAt 67 t12 1) w6 fun t13 w7 =>
  RunU Tryd.prog (Instr.storeAt 52 t13 t11) w7 fun w8 =>
  R (.tuple #[]) w8
theorem S56_eq (b_0 l_1 : Value) (w : World) (R : Value → World → Prop) : vcFn Tryd.prog Tryd.f56 [b_0, l_1] w R = S56 b_0 l_1 w R := by kernel_rfl
theorem D56 {b_0 l_1 : Value} {w : World} {R : Value → World → Prop} (h : S56 b_0 l_1 w R) : Does Tryd.prog 56 [b_0, l_1] w R :=
  does_of_vc mixed Tryd.func56 (by kernel_rfl) (by kernel_rfl) ((S56_eq b_0 l_1 w R).mpr h)

end Go.Proofs.YtmgleeoecdodjaaDoor.Sh
