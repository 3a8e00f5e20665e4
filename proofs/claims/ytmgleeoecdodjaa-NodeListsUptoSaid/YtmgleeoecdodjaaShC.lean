/- The conditions of functions, printed by a program off the loaded code and held against it by the kernel. Conditions: none. -/
import Derived.Test.YtmgleeoecdodjaaV5
import Derived.Test.YtmgleeoecdodjaaProg
set_option linter.unusedVariables false
set_option maxRecDepth 100000
namespace Go.Proofs.Ytmgleeoecdodjaa.Sh
open Go Go.V
theorem mixed : Try.prog.follows .mixedOrders = true := by kernel_rfl
/-- busbar/busbarkit.ApartInstrs -/
def S37 (ls_0 : Value) (w : World) (R : Value → World → Prop) : Prop :=
  JoinP 1 (fun (k1 : N1) =>
    LoopP 1 (fun (k2 : N1) => (fun (k_3 : Value) (w1 : World) => 
      Run Try.prog (Builtin.len_ #[44] 3 #[ls_0]) w1 fun t14 w2 =>
      Run Try.prog (binSem Go.BinOp.lss 3 (Go.Operand.tmp 12) (Go.Operand.tmp 14) k_3 t14) w2 fun t15 w3 =>
      CondP t15 0 (fun (k3 : N0) =>
        k3 w3)
      (fun (k4 : N0) =>
        k1 k_3 w3)
      (fun (w4 : World) => 
      JoinP 0 (fun (k5 : N0) =>
        JoinP 1 (fun (k6 : N1) =>
          LoopP 1 (fun (k7 : N1) => (fun (i_4 : Value) (w5 : World) => 
            Run Try.prog (Instr.indexAt 44 ls_0 k_3) w5 fun t21 w6 =>
            Run Try.prog (Instr.loadAt 138 t21) w6 fun t22 w7 =>
            Run Try.prog (Builtin.len_ #[138] 3 #[t22]) w7 fun t23 w8 =>
            Run Try.prog (binSem Go.BinOp.lss 3 (Go.Operand.tmp 18) (Go.Operand.tmp 23) i_4 t23) w8 fun t24 w9 =>
            CondP t24 0 (fun (k8 : N0) =>
              k8 w9)
            (fun (k9 : N0) =>
              k6 i_4 w9)
            (fun (w10 : World) => 
            JoinP 0 (fun (k10 : N0) =>
              ∀ w11, Ext w10 w11 →
              RunQ Try.prog (Instr.indexAt 44 ls_0 k_3) w11 fun t29 =>
              RunQ Try.prog (Instr.loadAt 138 t29) w11 fun t30 =>
              GoN Try.prog (callFunc 68 #[k_3, i_4]) w11 fun t34 w12 => Ext w11 w12 ∧
              RunQ Try.prog (Instr.indexAt 138 t30 i_4) w11 fun t35 =>
              RunU Try.prog (Instr.storeAt 140 t35 t34) w12 fun w13 =>
              k10 w13)
            (fun (w14 : World) => 
            Run Try.prog (binSem Go.BinOp.add 3 (Go.Operand.tmp 25) (Go.Operand.const (Go.Value.int Go.IntKind.i64 1)) i_4 (Go.Value.int Go.IntKind.i64 1)) w14 fun t26 w15 =>
            k7 t26 w15))))
          [(Go.Value.int Go.IntKind.i64 0)] w4)
        (fun (i_4 : Value) (w16 : World) => 
        k5 w16))
      (fun (w17 : World) => 
      Run Try.prog (binSem Go.BinOp.add 3 (Go.Operand.tmp 16) (Go.Operand.const (Go.Value.int Go.IntKind.i64 1)) k_3 (Go.Value.int Go.IntKind.i64 1)) w17 fun t17 w18 =>
      k2 t17 w18))))
    [(Go.Value.int Go.IntKind.i64 0)] w)
  (fun (k_3 : Value) (w19 : World) => 
  JoinP 2 (fun (k11 : N2) =>
    LoopP 2 (fun (k12 : N2) => (fun (gs_5 : Value) (k_6 : Value) (w20 : World) => 
      Run Try.prog (Builtin.len_ #[44] 3 #[ls_0]) w20 fun t38 w21 =>
      Run Try.prog (binSem Go.BinOp.lss 3 (Go.Operand.tmp 36) (Go.Operand.tmp 38) k_6 t38) w21 fun t39 w22 =>
      CondP t39 0 (fun (k13 : N0) =>
        k13 w22)
      (fun (k14 : N0) =>
        k11 gs_5 k_6 w22)
      (fun (w23 : World) => 
      JoinP 1 (fun (k15 : N1) =>
        Run Try.prog (Instr.indexAt 44 ls_0 k_6) w23 fun t44 w24 =>
        Run Try.prog (Instr.loadAt 138 t44) w24 fun t45 w25 =>
        JoinP 2 (fun (k16 : N2) =>
          LoopP 2 (fun (k17 : N2) => (fun (g_7 : Value) (i_8 : Value) (w26 : World) => 
            Run Try.prog (binSem Go.BinOp.lss 3 (Go.Operand.tmp 46) (Go.Operand.const (Go.Value.int Go.IntKind.i64 64)) i_8 (Go.Value.int Go.IntKind.i64 64)) w26 fun t47 w27 =>
            CondP t47 0 (fun (k18 : N0) =>
              k18 w27)
            (fun (k19 : N0) =>
              k16 g_7 i_8 w27)
            (fun (w28 : World) => 
            JoinP 1 (fun (k20 : N1) =>
              Run Try.prog (Instr.indexAt 44 ls_0 k_6) w28 fun t54 w29 =>
              Run Try.prog (Instr.loadAt 138 t54) w29 fun t55 w30 =>
              Run Try.prog (Builtin.len_ #[138] 3 #[t55]) w30 fun t56 w31 =>
              Run Try.prog (binSem Go.BinOp.add 3 (Go.Operand.tmp 56) (Go.Operand.tmp 57) t56 i_8) w31 fun t58 w32 =>
              GoN Try.prog (callFunc 68 #[k_6, t58]) w32 fun t59 w33 =>
              Run Try.prog (Instr.buildSlice 138 1 #[(0, t59)]) w33 fun t60 w34 =>
              Run Try.prog (Builtin.append_ #[138, 138] 138 #[g_7, t60]) w34 fun t61 w35 =>
              k20 t61 w35)
            (fun (g_7 : Value) (w36 : World) => 
            Run Try.prog (binSem Go.BinOp.add 3 (Go.Operand.tmp 48) (Go.Operand.const (Go.Value.int Go.IntKind.i64 1)) i_8 (Go.Value.int Go.IntKind.i64 1)) w36 fun t49 w37 =>
            k17 g_7 t49 w37))))
          [t45, (Go.Value.int Go.IntKind.i64 0)] w25)
        (fun (g_7 : Value) (i_8 : Value) (w38 : World) => 
        Run Try.prog (Instr.buildSlice 44 1 #[(0, g_7)]) w38 fun t64 w39 =>
        Run Try.prog (Builtin.append_ #[44, 44] 44 #[gs_5, t64]) w39 fun t65 w40 =>
        k15 t65 w40))
      (fun (gs_5 : Value) (w41 : World) => 
      Run Try.prog (binSem Go.BinOp.add 3 (Go.Operand.tmp 40) (Go.Operand.const (Go.Value.int Go.IntKind.i64 1)) k_6 (Go.Value.int Go.IntKind.i64 1)) w41 fun t41 w42 =>
      k12 gs_5 t41 w42))))
    [(Go.Value.slice none 0 0), (Go.Value.int Go.IntKind.i64 0)] w19)
  (fun (gs_5 : Value) (k_6 : Value) (w43 : World) => 
  JoinP 2 (fun (k21 : N2) =>
    LoopP 2 (fun (k22 : N2) => (fun (t2 : Value) (k_9 : Value) (w44 : World) => 
      Run Try.prog (Builtin.len_ #[44] 3 #[ls_0]) w44 fun t68 w45 =>
      Run Try.prog (binSem Go.BinOp.lss 3 (Go.Operand.tmp 66) (Go.Operand.tmp 68) k_9 t68) w45 fun t69 w46 =>
      CondP t69 0 (fun (k23 : N0) =>
        k23 w46)
      (fun (k24 : N0) =>
        k21 t2 k_9 w46)
      (fun (w47 : World) => 
      JoinP 1 (fun (k25 : N1) =>
        JoinP 2 (fun (k26 : N2) =>
          LoopP 2 (fun (k27 : N2) => (fun (t2 : Value) (i_10 : Value) (w48 : World) => 
            Run Try.prog (Instr.indexAt 44 gs_5 k_9) w48 fun t75 w49 =>
            Run Try.prog (Instr.loadAt 138 t75) w49 fun t76 w50 =>
            Run Try.prog (Builtin.len_ #[138] 3 #[t76]) w50 fun t77 w51 =>
            Run Try.prog (binSem Go.BinOp.lss 3 (Go.Operand.tmp 72) (Go.Operand.tmp 77) i_10 t77) w51 fun t78 w52 =>
            CondP t78 0 (fun (k28 : N0) =>
              k28 w52)
            (fun (k29 : N0) =>
              k26 t2 i_10 w52)
            (fun (w53 : World) => 
            JoinP 1 (fun (k30 : N1) =>
              GoN Try.prog (callFunc 68 #[k_9, i_10]) w53 fun t83 w54 =>
              Run Try.prog (Instr.alloc 140 true (.tuple #[])) w54 fun want_11 w55 =>
              RunU Try.prog (Instr.storeAt 140 want_11 t83) w55 fun w56 =>
              ∀ w57, Ext w56 w57 →
              RunQ Try.prog (Instr.indexAt 44 gs_5 k_9) w57 fun t86 =>
              RunQ Try.prog (Instr.loadAt 138 t86) w57 fun t87 =>
              RunQ Try.prog (Instr.indexAt 138 t87 i_10) w57 fun t89 =>
              RunQ Try.prog (Instr.loadAt 140 t89) w57 fun t90 =>
              RunQ Try.prog (Instr.loadAt 140 want_11) w57 fun t91 =>
              RunQ Try.prog (binSem Go.BinOp.neq 140 (Go.Operand.tmp 90) (Go.Operand.tmp 91) t90 t91) w57 fun t92 =>
              GuardQ t92 false (fun (k31 : Value → Prop) => k31 i_10) fun t94 =>
              GuardQ t92 false (fun (k32 : Value → Prop) => k32 ls_0) fun t95 =>
              GuardQ t92 false (fun (k33 : Value → Prop) => k33 k_9) fun t96 =>
              GuardQ t92 false (fun (k34 : Value → Prop) => RunQ Try.prog (Instr.indexAt 44 t95 t96) w57 k34) fun t97 =>
              GuardQ t92 false (fun (k35 : Value → Prop) => RunQ Try.prog (Instr.loadAt 138 t97) w57 k35) fun t98 =>
              GuardQ t92 false (fun (k36 : Value → Prop) => RunQ Try.prog (Builtin.len_ #[138] 3 #[t98]) w57 k36) fun t99 =>
              GuardQ t92 false (fun (k37 : Value → Prop) => RunQ Try.prog (binSem Go.BinOp.lss 3 (Go.Operand.tmp 94) (Go.Operand.tmp 99) t94 t99) w57 k37) fun t100 =>
              GuardQ t92 false (fun (k38 : Value → Prop) => k38 t100) fun t101 =>
              GuardQ t101 true (fun (k39 : Value → Prop) => k39 ls_0) fun t102 =>
              GuardQ t101 true (fun (k40 : Value → Prop) => k40 k_9) fun t103 =>
              GuardQ t101 true (fun (k41 : Value → Prop) => RunQ Try.prog (Instr.indexAt 44 t102 t103) w57 k41) fun t104 =>
              GuardQ t101 true (fun (k42 : Value → Prop) => RunQ Try.prog (Instr.loadAt 138 t104) w57 k42) fun t105 =>
              GuardQ t101 true (fun (k43 : Value → Prop) => k43 i_10) fun t106 =>
              GuardQ t101 true (fun (k44 : Value → Prop) => RunQ Try.prog (Instr.indexAt 138 t105 t106) w57 k44) fun t107 =>
              GuardQ t101 true (fun (k45 : Value → Prop) => RunQ Try.prog (Instr.loadAt 140 t107) w57 k45) fun t108 =>
              GuardQ t101 true (fun (k46 : Value → Prop) => RunQ Try.prog (Instr.loadAt 140 want_11) w57 k46) fun t109 =>
              GuardQ t101 true (fun (k47 : Value → Prop) => RunQ Try.prog (binSem Go.BinOp.neq 140 (Go.Operand.tmp 108) (Go.Operand.tmp 109) t108 t109) w57 k47) fun t110 =>
              GuardQ t92 false (fun (k48 : Value → Prop) => PickQ t101 t110 (Go.Value.bool false) k48) fun t111 =>
              PickQ t92 (Go.Value.bool true) t111 fun t112 =>
              CondP t112 1 (fun (k49 : N1) =>
                R (Go.Value.bool false) w57)
              (fun (k50 : N1) =>
                k50 t2 w57)
              (fun (t2 : Value) (w58 : World) => 
              k30 t2 w58))
            (fun (t2 : Value) (w59 : World) => 
            Run Try.prog (binSem Go.BinOp.add 3 (Go.Operand.tmp 79) (Go.Operand.const (Go.Value.int Go.IntKind.i64 1)) i_10 (Go.Value.int Go.IntKind.i64 1)) w59 fun t80 w60 =>
            k27 t2 t80 w60))))
          [t2, (Go.Value.int Go.IntKind.i64 0)] w47)
        (fun (t2 : Value) (i_10 : Value) (w61 : World) => 
        k25 t2 w61))
      (fun (t2 : Value) (w62 : World) => 
      Run Try.prog (binSem Go.BinOp.add 3 (Go.Operand.tmp 70) (Go.Operand.const (Go.Value.int Go.IntKind.i64 1)) k_9 (Go.Value.int Go.IntKind.i64 1)) w62 fun t71 w63 =>
      k22 t2 t71 w63))))
    [(Go.Value.bool false), (Go.Value.int Go.IntKind.i64 0)] w43)
  (fun (t2 : Value) (k_9 : Value) (w64 : World) => 
  R (Go.Value.bool true) w64)))
theorem S37_eq (ls_0 : Value) (w : World) (R : Value → World → Prop) : vcFn Try.prog Try.f37 [ls_0] w R = S37 ls_0 w R := by kernel_rfl
theorem D37 {ls_0 : Value} {w : World} {R : Value → World → Prop} (h : S37 ls_0 w R) : Does Try.prog 37 [ls_0] w R :=
  does_of_vc mixed Try.func37 (by kernel_rfl) (by kernel_rfl) ((S37_eq ls_0 w R).mpr h)

/-- busbar/busbarkit.ApartRules -/
def S38 (ls_0 : Value) (w : World) (R : Value → World → Prop) : Prop :=
  JoinP 1 (fun (k1 : N1) =>
    LoopP 1 (fun (k2 : N1) => (fun (k_3 : Value) (w1 : World) => 
      Run Try.prog (Builtin.len_ #[45] 3 #[ls_0]) w1 fun t14 w2 =>
      Run Try.prog (binSem Go.BinOp.lss 3 (Go.Operand.tmp 12) (Go.Operand.tmp 14) k_3 t14) w2 fun t15 w3 =>
      CondP t15 0 (fun (k3 : N0) =>
        k3 w3)
      (fun (k4 : N0) =>
        k1 k_3 w3)
      (fun (w4 : World) => 
      JoinP 0 (fun (k5 : N0) =>
        JoinP 1 (fun (k6 : N1) =>
          LoopP 1 (fun (k7 : N1) => (fun (i_4 : Value) (w5 : World) => 
            Run Try.prog (Instr.indexAt 45 ls_0 k_3) w5 fun t21 w6 =>
            Run Try.prog (Instr.loadAt 142 t21) w6 fun t22 w7 =>
            Run Try.prog (Builtin.len_ #[142] 3 #[t22]) w7 fun t23 w8 =>
            Run Try.prog (binSem Go.BinOp.lss 3 (Go.Operand.tmp 18) (Go.Operand.tmp 23) i_4 t23) w8 fun t24 w9 =>
            CondP t24 0 (fun (k8 : N0) =>
              k8 w9)
            (fun (k9 : N0) =>
              k6 i_4 w9)
            (fun (w10 : World) => 
            JoinP 0 (fun (k10 : N0) =>
              ∀ w11, Ext w10 w11 →
              RunQ Try.prog (Instr.indexAt 45 ls_0 k_3) w11 fun t29 =>
              RunQ Try.prog (Instr.loadAt 142 t29) w11 fun t30 =>
              GoN Try.prog (callFunc 69 #[k_3, i_4]) w11 fun t34 w12 => Ext w11 w12 ∧
              RunQ Try.prog (Instr.indexAt 142 t30 i_4) w11 fun t35 =>
              RunU Try.prog (Instr.storeAt 144 t35 t34) w12 fun w13 =>
              k10 w13)
            (fun (w14 : World) => 
            Run Try.prog (binSem Go.BinOp.add 3 (Go.Operand.tmp 25) (Go.Operand.const (Go.Value.int Go.IntKind.i64 1)) i_4 (Go.Value.int Go.IntKind.i64 1)) w14 fun t26 w15 =>
            k7 t26 w15))))
          [(Go.Value.int Go.IntKind.i64 0)] w4)
        (fun (i_4 : Value) (w16 : World) => 
        k5 w16))
      (fun (w17 : World) => 
      Run Try.prog (binSem Go.BinOp.add 3 (Go.Operand.tmp 16) (Go.Operand.const (Go.Value.int Go.IntKind.i64 1)) k_3 (Go.Value.int Go.IntKind.i64 1)) w17 fun t17 w18 =>
      k2 t17 w18))))
    [(Go.Value.int Go.IntKind.i64 0)] w)
  (fun (k_3 : Value) (w19 : World) => 
  JoinP 2 (fun (k11 : N2) =>
    LoopP 2 (fun (k12 : N2) => (fun (gs_5 : Value) (k_6 : Value) (w20 : World) => 
      Run Try.prog (Builtin.len_ #[45] 3 #[ls_0]) w20 fun t38 w21 =>
      Run Try.prog (binSem Go.BinOp.lss 3 (Go.Operand.tmp 36) (Go.Operand.tmp 38) k_6 t38) w21 fun t39 w22 =>
      CondP t39 0 (fun (k13 : N0) =>
        k13 w22)
      (fun (k14 : N0) =>
        k11 gs_5 k_6 w22)
      (fun (w23 : World) => 
      JoinP 1 (fun (k15 : N1) =>
        Run Try.prog (Instr.indexAt 45 ls_0 k_6) w23 fun t44 w24 =>
        Run Try.prog (Instr.loadAt 142 t44) w24 fun t45 w25 =>
        JoinP 2 (fun (k16 : N2) =>
          LoopP 2 (fun (k17 : N2) => (fun (g_7 : Value) (i_8 : Value) (w26 : World) => 
            Run Try.prog (binSem Go.BinOp.lss 3 (Go.Operand.tmp 46) (Go.Operand.const (Go.Value.int Go.IntKind.i64 64)) i_8 (Go.Value.int Go.IntKind.i64 64)) w26 fun t47 w27 =>
            CondP t47 0 (fun (k18 : N0) =>
              k18 w27)
            (fun (k19 : N0) =>
              k16 g_7 i_8 w27)
            (fun (w28 : World) => 
            JoinP 1 (fun (k20 : N1) =>
              Run Try.prog (Instr.indexAt 45 ls_0 k_6) w28 fun t54 w29 =>
              Run Try.prog (Instr.loadAt 142 t54) w29 fun t55 w30 =>
              Run Try.prog (Builtin.len_ #[142] 3 #[t55]) w30 fun t56 w31 =>
              Run Try.prog (binSem Go.BinOp.add 3 (Go.Operand.tmp 56) (Go.Operand.tmp 57) t56 i_8) w31 fun t58 w32 =>
              GoN Try.prog (callFunc 69 #[k_6, t58]) w32 fun t59 w33 =>
              Run Try.prog (Instr.buildSlice 142 1 #[(0, t59)]) w33 fun t60 w34 =>
              Run Try.prog (Builtin.append_ #[142, 142] 142 #[g_7, t60]) w34 fun t61 w35 =>
              k20 t61 w35)
            (fun (g_7 : Value) (w36 : World) => 
            Run Try.prog (binSem Go.BinOp.add 3 (Go.Operand.tmp 48) (Go.Operand.const (Go.Value.int Go.IntKind.i64 1)) i_8 (Go.Value.int Go.IntKind.i64 1)) w36 fun t49 w37 =>
            k17 g_7 t49 w37))))
          [t45, (Go.Value.int Go.IntKind.i64 0)] w25)
        (fun (g_7 : Value) (i_8 : Value) (w38 : World) => 
        Run Try.prog (Instr.buildSlice 45 1 #[(0, g_7)]) w38 fun t64 w39 =>
        Run Try.prog (Builtin.append_ #[45, 45] 45 #[gs_5, t64]) w39 fun t65 w40 =>
        k15 t65 w40))
      (fun (gs_5 : Value) (w41 : World) => 
      Run Try.prog (binSem Go.BinOp.add 3 (Go.Operand.tmp 40) (Go.Operand.const (Go.Value.int Go.IntKind.i64 1)) k_6 (Go.Value.int Go.IntKind.i64 1)) w41 fun t41 w42 =>
      k12 gs_5 t41 w42))))
    [(Go.Value.slice none 0 0), (Go.Value.int Go.IntKind.i64 0)] w19)
  (fun (gs_5 : Value) (k_6 : Value) (w43 : World) => 
  JoinP 2 (fun (k21 : N2) =>
    LoopP 2 (fun (k22 : N2) => (fun (t2 : Value) (k_9 : Value) (w44 : World) => 
      Run Try.prog (Builtin.len_ #[45] 3 #[ls_0]) w44 fun t68 w45 =>
      Run Try.prog (binSem Go.BinOp.lss 3 (Go.Operand.tmp 66) (Go.Operand.tmp 68) k_9 t68) w45 fun t69 w46 =>
      CondP t69 0 (fun (k23 : N0) =>
        k23 w46)
      (fun (k24 : N0) =>
        k21 t2 k_9 w46)
      (fun (w47 : World) => 
      JoinP 1 (fun (k25 : N1) =>
        JoinP 2 (fun (k26 : N2) =>
          LoopP 2 (fun (k27 : N2) => (fun (t2 : Value) (i_10 : Value) (w48 : World) => 
            Run Try.prog (Instr.indexAt 45 gs_5 k_9) w48 fun t75 w49 =>
            Run Try.prog (Instr.loadAt 142 t75) w49 fun t76 w50 =>
            Run Try.prog (Builtin.len_ #[142] 3 #[t76]) w50 fun t77 w51 =>
            Run Try.prog (binSem Go.BinOp.lss 3 (Go.Operand.tmp 72) (Go.Operand.tmp 77) i_10 t77) w51 fun t78 w52 =>
            CondP t78 0 (fun (k28 : N0) =>
              k28 w52)
            (fun (k29 : N0) =>
              k26 t2 i_10 w52)
            (fun (w53 : World) => 
            JoinP 1 (fun (k30 : N1) =>
              GoN Try.prog (callFunc 69 #[k_9, i_10]) w53 fun t83 w54 =>
              Run Try.prog (Instr.alloc 144 true (.tuple #[])) w54 fun want_11 w55 =>
              RunU Try.prog (Instr.storeAt 144 want_11 t83) w55 fun w56 =>
              ∀ w57, Ext w56 w57 →
              RunQ Try.prog (Instr.indexAt 45 gs_5 k_9) w57 fun t86 =>
              RunQ Try.prog (Instr.loadAt 142 t86) w57 fun t87 =>
              RunQ Try.prog (Instr.indexAt 142 t87 i_10) w57 fun t89 =>
              RunQ Try.prog (Instr.loadAt 144 t89) w57 fun t90 =>
              RunQ Try.prog (Instr.loadAt 144 want_11) w57 fun t91 =>
              RunQ Try.prog (binSem Go.BinOp.neq 144 (Go.Operand.tmp 90) (Go.Operand.tmp 91) t90 t91) w57 fun t92 =>
              GuardQ t92 false (fun (k31 : Value → Prop) => k31 i_10) fun t94 =>
              GuardQ t92 false (fun (k32 : Value → Prop) => k32 ls_0) fun t95 =>
              GuardQ t92 false (fun (k33 : Value → Prop) => k33 k_9) fun t96 =>
              GuardQ t92 false (fun (k34 : Value → Prop) => RunQ Try.prog (Instr.indexAt 45 t95 t96) w57 k34) fun t97 =>
              GuardQ t92 false (fun (k35 : Value → Prop) => RunQ Try.prog (Instr.loadAt 142 t97) w57 k35) fun t98 =>
              GuardQ t92 false (fun (k36 : Value → Prop) => RunQ Try.prog (Builtin.len_ #[142] 3 #[t98]) w57 k36) fun t99 =>
              GuardQ t92 false (fun (k37 : Value → Prop) => RunQ Try.prog (binSem Go.BinOp.lss 3 (Go.Operand.tmp 94) (Go.Operand.tmp 99) t94 t99) w57 k37) fun t100 =>
              GuardQ t92 false (fun (k38 : Value → Prop) => k38 t100) fun t101 =>
              GuardQ t101 true (fun (k39 : Value → Prop) => k39 ls_0) fun t102 =>
              GuardQ t101 true (fun (k40 : Value → Prop) => k40 k_9) fun t103 =>
              GuardQ t101 true (fun (k41 : Value → Prop) => RunQ Try.prog (Instr.indexAt 45 t102 t103) w57 k41) fun t104 =>
              GuardQ t101 true (fun (k42 : Value → Prop) => RunQ Try.prog (Instr.loadAt 142 t104) w57 k42) fun t105 =>
              GuardQ t101 true (fun (k43 : Value → Prop) => k43 i_10) fun t106 =>
              GuardQ t101 true (fun (k44 : Value → Prop) => RunQ Try.prog (Instr.indexAt 142 t105 t106) w57 k44) fun t107 =>
              GuardQ t101 true (fun (k45 : Value → Prop) => RunQ Try.prog (Instr.loadAt 144 t107) w57 k45) fun t108 =>
              GuardQ t101 true (fun (k46 : Value → Prop) => RunQ Try.prog (Instr.loadAt 144 want_11) w57 k46) fun t109 =>
              GuardQ t101 true (fun (k47 : Value → Prop) => RunQ Try.prog (binSem Go.BinOp.neq 144 (Go.Operand.tmp 108) (Go.Operand.tmp 109) t108 t109) w57 k47) fun t110 =>
              GuardQ t92 false (fun (k48 : Value → Prop) => PickQ t101 t110 (Go.Value.bool false) k48) fun t111 =>
              PickQ t92 (Go.Value.bool true) t111 fun t112 =>
              CondP t112 1 (fun (k49 : N1) =>
                R (Go.Value.bool false) w57)
              (fun (k50 : N1) =>
                k50 t2 w57)
              (fun (t2 : Value) (w58 : World) => 
              k30 t2 w58))
            (fun (t2 : Value) (w59 : World) => 
            Run Try.prog (binSem Go.BinOp.add 3 (Go.Operand.tmp 79) (Go.Operand.const (Go.Value.int Go.IntKind.i64 1)) i_10 (Go.Value.int Go.IntKind.i64 1)) w59 fun t80 w60 =>
            k27 t2 t80 w60))))
          [t2, (Go.Value.int Go.IntKind.i64 0)] w47)
        (fun (t2 : Value) (i_10 : Value) (w61 : World) => 
        k25 t2 w61))
      (fun (t2 : Value) (w62 : World) => 
      Run Try.prog (binSem Go.BinOp.add 3 (Go.Operand.tmp 70) (Go.Operand.const (Go.Value.int Go.IntKind.i64 1)) k_9 (Go.Value.int Go.IntKind.i64 1)) w62 fun t71 w63 =>
      k22 t2 t71 w63))))
    [(Go.Value.bool false), (Go.Value.int Go.IntKind.i64 0)] w43)
  (fun (t2 : Value) (k_9 : Value) (w64 : World) => 
  R (Go.Value.bool true) w64)))
theorem S38_eq (ls_0 : Value) (w : World) (R : Value → World → Prop) : vcFn Try.prog Try.f38 [ls_0] w R = S38 ls_0 w R := by kernel_rfl
theorem D38 {ls_0 : Value} {w : World} {R : Value → World → Prop} (h : S38 ls_0 w R) : Does Try.prog 38 [ls_0] w R :=
  does_of_vc mixed Try.func38 (by kernel_rfl) (by kernel_rfl) ((S38_eq ls_0 w R).mpr h)

/-- busbar/busbarkit.ApartValues -/
def S39 (ls_0 : Value) (w : World) (R : Value → World → Prop) : Prop :=
  JoinP 1 (fun (k1 : N1) =>
    LoopP 1 (fun (k2 : N1) => (fun (k_3 : Value) (w1 : World) => 
      Run Try.prog (Builtin.len_ #[46] 3 #[ls_0]) w1 fun t14 w2 =>
      Run Try.prog (binSem Go.BinOp.lss 3 (Go.Operand.tmp 12) (Go.Operand.tmp 14) k_3 t14) w2 fun t15 w3 =>
      CondP t15 0 (fun (k3 : N0) =>
        k3 w3)
      (fun (k4 : N0) =>
        k1 k_3 w3)
      (fun (w4 : World) => 
      JoinP 0 (fun (k5 : N0) =>
        JoinP 1 (fun (k6 : N1) =>
          LoopP 1 (fun (k7 : N1) => (fun (i_4 : Value) (w5 : World) => 
            Run Try.prog (Instr.indexAt 46 ls_0 k_3) w5 fun t21 w6 =>
            Run Try.prog (Instr.loadAt 146 t21) w6 fun t22 w7 =>
            Run Try.prog (Builtin.len_ #[146] 3 #[t22]) w7 fun t23 w8 =>
            Run Try.prog (binSem Go.BinOp.lss 3 (Go.Operand.tmp 18) (Go.Operand.tmp 23) i_4 t23) w8 fun t24 w9 =>
            CondP t24 0 (fun (k8 : N0) =>
              k8 w9)
            (fun (k9 : N0) =>
              k6 i_4 w9)
            (fun (w10 : World) => 
            JoinP 0 (fun (k10 : N0) =>
              ∀ w11, Ext w10 w11 →
              RunQ Try.prog (Instr.indexAt 46 ls_0 k_3) w11 fun t29 =>
              RunQ Try.prog (Instr.loadAt 146 t29) w11 fun t30 =>
              GoN Try.prog (callFunc 70 #[k_3, i_4]) w11 fun t34 w12 => Ext w11 w12 ∧
              RunQ Try.prog (Instr.indexAt 146 t30 i_4) w11 fun t35 =>
              RunU Try.prog (Instr.storeAt 148 t35 t34) w12 fun w13 =>
              k10 w13)
            (fun (w14 : World) => 
            Run Try.prog (binSem Go.BinOp.add 3 (Go.Operand.tmp 25) (Go.Operand.const (Go.Value.int Go.IntKind.i64 1)) i_4 (Go.Value.int Go.IntKind.i64 1)) w14 fun t26 w15 =>
            k7 t26 w15))))
          [(Go.Value.int Go.IntKind.i64 0)] w4)
        (fun (i_4 : Value) (w16 : World) => 
        k5 w16))
      (fun (w17 : World) => 
      Run Try.prog (binSem Go.BinOp.add 3 (Go.Operand.tmp 16) (Go.Operand.const (Go.Value.int Go.IntKind.i64 1)) k_3 (Go.Value.int Go.IntKind.i64 1)) w17 fun t17 w18 =>
      k2 t17 w18))))
    [(Go.Value.int Go.IntKind.i64 0)] w)
  (fun (k_3 : Value) (w19 : World) => 
  JoinP 2 (fun (k11 : N2) =>
    LoopP 2 (fun (k12 : N2) => (fun (gs_5 : Value) (k_6 : Value) (w20 : World) => 
      Run Try.prog (Builtin.len_ #[46] 3 #[ls_0]) w20 fun t38 w21 =>
      Run Try.prog (binSem Go.BinOp.lss 3 (Go.Operand.tmp 36) (Go.Operand.tmp 38) k_6 t38) w21 fun t39 w22 =>
      CondP t39 0 (fun (k13 : N0) =>
        k13 w22)
      (fun (k14 : N0) =>
        k11 gs_5 k_6 w22)
      (fun (w23 : World) => 
      JoinP 1 (fun (k15 : N1) =>
        Run Try.prog (Instr.indexAt 46 ls_0 k_6) w23 fun t44 w24 =>
        Run Try.prog (Instr.loadAt 146 t44) w24 fun t45 w25 =>
        JoinP 2 (fun (k16 : N2) =>
          LoopP 2 (fun (k17 : N2) => (fun (g_7 : Value) (i_8 : Value) (w26 : World) => 
            Run Try.prog (binSem Go.BinOp.lss 3 (Go.Operand.tmp 46) (Go.Operand.const (Go.Value.int Go.IntKind.i64 64)) i_8 (Go.Value.int Go.IntKind.i64 64)) w26 fun t47 w27 =>
            CondP t47 0 (fun (k18 : N0) =>
              k18 w27)
            (fun (k19 : N0) =>
              k16 g_7 i_8 w27)
            (fun (w28 : World) => 
            JoinP 1 (fun (k20 : N1) =>
              Run Try.prog (Instr.indexAt 46 ls_0 k_6) w28 fun t54 w29 =>
              Run Try.prog (Instr.loadAt 146 t54) w29 fun t55 w30 =>
              Run Try.prog (Builtin.len_ #[146] 3 #[t55]) w30 fun t56 w31 =>
              Run Try.prog (binSem Go.BinOp.add 3 (Go.Operand.tmp 56) (Go.Operand.tmp 57) t56 i_8) w31 fun t58 w32 =>
              GoN Try.prog (callFunc 70 #[k_6, t58]) w32 fun t59 w33 =>
              Run Try.prog (Instr.buildSlice 146 1 #[(0, t59)]) w33 fun t60 w34 =>
              Run Try.prog (Builtin.append_ #[146, 146] 146 #[g_7, t60]) w34 fun t61 w35 =>
              k20 t61 w35)
            (fun (g_7 : Value) (w36 : World) => 
            Run Try.prog (binSem Go.BinOp.add 3 (Go.Operand.tmp 48) (Go.Operand.const (Go.Value.int Go.IntKind.i64 1)) i_8 (Go.Value.int Go.IntKind.i64 1)) w36 fun t49 w37 =>
            k17 g_7 t49 w37))))
          [t45, (Go.Value.int Go.IntKind.i64 0)] w25)
        (fun (g_7 : Value) (i_8 : Value) (w38 : World) => 
        Run Try.prog (Instr.buildSlice 46 1 #[(0, g_7)]) w38 fun t64 w39 =>
        Run Try.prog (Builtin.append_ #[46, 46] 46 #[gs_5, t64]) w39 fun t65 w40 =>
        k15 t65 w40))
      (fun (gs_5 : Value) (w41 : World) => 
      Run Try.prog (binSem Go.BinOp.add 3 (Go.Operand.tmp 40) (Go.Operand.const (Go.Value.int Go.IntKind.i64 1)) k_6 (Go.Value.int Go.IntKind.i64 1)) w41 fun t41 w42 =>
      k12 gs_5 t41 w42))))
    [(Go.Value.slice none 0 0), (Go.Value.int Go.IntKind.i64 0)] w19)
  (fun (gs_5 : Value) (k_6 : Value) (w43 : World) => 
  JoinP 2 (fun (k21 : N2) =>
    LoopP 2 (fun (k22 : N2) => (fun (t2 : Value) (k_9 : Value) (w44 : World) => 
      Run Try.prog (Builtin.len_ #[46] 3 #[ls_0]) w44 fun t68 w45 =>
      Run Try.prog (binSem Go.BinOp.lss 3 (Go.Operand.tmp 66) (Go.Operand.tmp 68) k_9 t68) w45 fun t69 w46 =>
      CondP t69 0 (fun (k23 : N0) =>
        k23 w46)
      (fun (k24 : N0) =>
        k21 t2 k_9 w46)
      (fun (w47 : World) => 
      JoinP 1 (fun (k25 : N1) =>
        JoinP 2 (fun (k26 : N2) =>
          LoopP 2 (fun (k27 : N2) => (fun (t2 : Value) (i_10 : Value) (w48 : World) => 
            Run Try.prog (Instr.indexAt 46 gs_5 k_9) w48 fun t75 w49 =>
            Run Try.prog (Instr.loadAt 146 t75) w49 fun t76 w50 =>
            Run Try.prog (Builtin.len_ #[146] 3 #[t76]) w50 fun t77 w51 =>
            Run Try.prog (binSem Go.BinOp.lss 3 (Go.Operand.tmp 72) (Go.Operand.tmp 77) i_10 t77) w51 fun t78 w52 =>
            CondP t78 0 (fun (k28 : N0) =>
              k28 w52)
            (fun (k29 : N0) =>
              k26 t2 i_10 w52)
            (fun (w53 : World) => 
            JoinP 1 (fun (k30 : N1) =>
              GoN Try.prog (callFunc 70 #[k_9, i_10]) w53 fun t83 w54 =>
              Run Try.prog (Instr.alloc 148 true (.tuple #[])) w54 fun want_11 w55 =>
              RunU Try.prog (Instr.storeAt 148 want_11 t83) w55 fun w56 =>
              ∀ w57, Ext w56 w57 →
              RunQ Try.prog (Instr.indexAt 46 gs_5 k_9) w57 fun t86 =>
              RunQ Try.prog (Instr.loadAt 146 t86) w57 fun t87 =>
              RunQ Try.prog (Instr.indexAt 146 t87 i_10) w57 fun t89 =>
              RunQ Try.prog (Instr.loadAt 148 t89) w57 fun t90 =>
              RunQ Try.prog (Instr.loadAt 148 want_11) w57 fun t91 =>
              RunQ Try.prog (binSem Go.BinOp.neq 148 (Go.Operand.tmp 90) (Go.Operand.tmp 91) t90 t91) w57 fun t92 =>
              GuardQ t92 false (fun (k31 : Value → Prop) => k31 i_10) fun t94 =>
              GuardQ t92 false (fun (k32 : Value → Prop) => k32 ls_0) fun t95 =>
              GuardQ t92 false (fun (k33 : Value → Prop) => k33 k_9) fun t96 =>
              GuardQ t92 false (fun (k34 : Value → Prop) => RunQ Try.prog (Instr.indexAt 46 t95 t96) w57 k34) fun t97 =>
              GuardQ t92 false (fun (k35 : Value → Prop) => RunQ Try.prog (Instr.loadAt 146 t97) w57 k35) fun t98 =>
              GuardQ t92 false (fun (k36 : Value → Prop) => RunQ Try.prog (Builtin.len_ #[146] 3 #[t98]) w57 k36) fun t99 =>
              GuardQ t92 false (fun (k37 : Value → Prop) => RunQ Try.prog (binSem Go.BinOp.lss 3 (Go.Operand.tmp 94) (Go.Operand.tmp 99) t94 t99) w57 k37) fun t100 =>
              GuardQ t92 false (fun (k38 : Value → Prop) => k38 t100) fun t101 =>
              GuardQ t101 true (fun (k39 : Value → Prop) => k39 ls_0) fun t102 =>
              GuardQ t101 true (fun (k40 : Value → Prop) => k40 k_9) fun t103 =>
              GuardQ t101 true (fun (k41 : Value → Prop) => RunQ Try.prog (Instr.indexAt 46 t102 t103) w57 k41) fun t104 =>
              GuardQ t101 true (fun (k42 : Value → Prop) => RunQ Try.prog (Instr.loadAt 146 t104) w57 k42) fun t105 =>
              GuardQ t101 true (fun (k43 : Value → Prop) => k43 i_10) fun t106 =>
              GuardQ t101 true (fun (k44 : Value → Prop) => RunQ Try.prog (Instr.indexAt 146 t105 t106) w57 k44) fun t107 =>
              GuardQ t101 true (fun (k45 : Value → Prop) => RunQ Try.prog (Instr.loadAt 148 t107) w57 k45) fun t108 =>
              GuardQ t101 true (fun (k46 : Value → Prop) => RunQ Try.prog (Instr.loadAt 148 want_11) w57 k46) fun t109 =>
              GuardQ t101 true (fun (k47 : Value → Prop) => RunQ Try.prog (binSem Go.BinOp.neq 148 (Go.Operand.tmp 108) (Go.Operand.tmp 109) t108 t109) w57 k47) fun t110 =>
              GuardQ t92 false (fun (k48 : Value → Prop) => PickQ t101 t110 (Go.Value.bool false) k48) fun t111 =>
              PickQ t92 (Go.Value.bool true) t111 fun t112 =>
              CondP t112 1 (fun (k49 : N1) =>
                R (Go.Value.bool false) w57)
              (fun (k50 : N1) =>
                k50 t2 w57)
              (fun (t2 : Value) (w58 : World) => 
              k30 t2 w58))
            (fun (t2 : Value) (w59 : World) => 
            Run Try.prog (binSem Go.BinOp.add 3 (Go.Operand.tmp 79) (Go.Operand.const (Go.Value.int Go.IntKind.i64 1)) i_10 (Go.Value.int Go.IntKind.i64 1)) w59 fun t80 w60 =>
            k27 t2 t80 w60))))
          [t2, (Go.Value.int Go.IntKind.i64 0)] w47)
        (fun (t2 : Value) (i_10 : Value) (w61 : World) => 
        k25 t2 w61))
      (fun (t2 : Value) (w62 : World) => 
      Run Try.prog (binSem Go.BinOp.add 3 (Go.Operand.tmp 70) (Go.Operand.const (Go.Value.int Go.IntKind.i64 1)) k_9 (Go.Value.int Go.IntKind.i64 1)) w62 fun t71 w63 =>
      k22 t2 t71 w63))))
    [(Go.Value.bool false), (Go.Value.int Go.IntKind.i64 0)] w43)
  (fun (t2 : Value) (k_9 : Value) (w64 : World) => 
  R (Go.Value.bool true) w64)))
theorem S39_eq (ls_0 : Value) (w : World) (R : Value → World → Prop) : vcFn Try.prog Try.f39 [ls_0] w R = S39 ls_0 w R := by kernel_rfl
theorem D39 {ls_0 : Value} {w : World} {R : Value → World → Prop} (h : S39 ls_0 w R) : Does Try.prog 39 [ls_0] w R :=
  does_of_vc mixed Try.func39 (by kernel_rfl) (by kernel_rfl) ((S39_eq ls_0 w R).mpr h)

/-- busbar/busbarkit.ApartBools -/
def S40 (ls_0 : Value) (w : World) (R : Value → World → Prop) : Prop :=
  JoinP 2 (fun (k1 : N2) =>
    LoopP 2 (fun (k2 : N2) => (fun (gs_3 : Value) (k_4 : Value) (w1 : World) => 
      Run Try.prog (Builtin.len_ #[47] 3 #[ls_0]) w1 fun t18 w2 =>
      Run Try.prog (binSem Go.BinOp.lss 3 (Go.Operand.tmp 16) (Go.Operand.tmp 18) k_4 t18) w2 fun t19 w3 =>
      CondP t19 0 (fun (k3 : N0) =>
        k3 w3)
      (fun (k4 : N0) =>
        k1 gs_3 k_4 w3)
      (fun (w4 : World) => 
      JoinP 1 (fun (k5 : N1) =>
        Run Try.prog (Instr.indexAt 47 ls_0 k_4) w4 fun t24 w5 =>
        Run Try.prog (Instr.loadAt 150 t24) w5 fun t25 w6 =>
        JoinP 2 (fun (k6 : N2) =>
          LoopP 2 (fun (k7 : N2) => (fun (g_5 : Value) (i_6 : Value) (w7 : World) => 
            Run Try.prog (binSem Go.BinOp.lss 3 (Go.Operand.tmp 26) (Go.Operand.const (Go.Value.int Go.IntKind.i64 64)) i_6 (Go.Value.int Go.IntKind.i64 64)) w7 fun t27 w8 =>
            CondP t27 0 (fun (k8 : N0) =>
              k8 w8)
            (fun (k9 : N0) =>
              k6 g_5 i_6 w8)
            (fun (w9 : World) => 
            JoinP 1 (fun (k10 : N1) =>
              Run Try.prog (binSem Go.BinOp.rem 3 (Go.Operand.tmp 31) (Go.Operand.const (Go.Value.int Go.IntKind.i64 2)) i_6 (Go.Value.int Go.IntKind.i64 2)) w9 fun t32 w10 =>
              Run Try.prog (binSem Go.BinOp.eql 3 (Go.Operand.tmp 32) (Go.Operand.const (Go.Value.int Go.IntKind.i64 0)) t32 (Go.Value.int Go.IntKind.i64 0)) w10 fun t33 w11 =>
              Run Try.prog (Instr.buildSlice 150 1 #[(0, t33)]) w11 fun t34 w12 =>
              Run Try.prog (Builtin.append_ #[150, 150] 150 #[g_5, t34]) w12 fun t35 w13 =>
              k10 t35 w13)
            (fun (g_5 : Value) (w14 : World) => 
            Run Try.prog (binSem Go.BinOp.add 3 (Go.Operand.tmp 28) (Go.Operand.const (Go.Value.int Go.IntKind.i64 1)) i_6 (Go.Value.int Go.IntKind.i64 1)) w14 fun t29 w15 =>
            k7 g_5 t29 w15))))
          [t25, (Go.Value.int Go.IntKind.i64 0)] w6)
        (fun (g_5 : Value) (i_6 : Value) (w16 : World) => 
        Run Try.prog (Instr.buildSlice 47 1 #[(0, g_5)]) w16 fun t38 w17 =>
        Run Try.prog (Builtin.append_ #[47, 47] 47 #[gs_3, t38]) w17 fun t39 w18 =>
        k5 t39 w18))
      (fun (gs_3 : Value) (w19 : World) => 
      Run Try.prog (binSem Go.BinOp.add 3 (Go.Operand.tmp 20) (Go.Operand.const (Go.Value.int Go.IntKind.i64 1)) k_4 (Go.Value.int Go.IntKind.i64 1)) w19 fun t21 w20 =>
      k2 gs_3 t21 w20))))
    [(Go.Value.slice none 0 0), (Go.Value.int Go.IntKind.i64 0)] w)
  (fun (gs_3 : Value) (k_4 : Value) (w21 : World) => 
  JoinP 2 (fun (k11 : N2) =>
    LoopP 2 (fun (k12 : N2) => (fun (t2 : Value) (k_7 : Value) (w22 : World) => 
      Run Try.prog (Builtin.len_ #[47] 3 #[gs_3]) w22 fun t42 w23 =>
      Run Try.prog (binSem Go.BinOp.lss 3 (Go.Operand.tmp 40) (Go.Operand.tmp 42) k_7 t42) w23 fun t43 w24 =>
      CondP t43 0 (fun (k13 : N0) =>
        k13 w24)
      (fun (k14 : N0) =>
        k11 t2 k_7 w24)
      (fun (w25 : World) => 
      JoinP 1 (fun (k15 : N1) =>
        JoinP 2 (fun (k16 : N2) =>
          LoopP 2 (fun (k17 : N2) => (fun (was_8 : Value) (j_9 : Value) (w26 : World) => 
            Run Try.prog (Builtin.len_ #[47] 3 #[gs_3]) w26 fun t48 w27 =>
            Run Try.prog (binSem Go.BinOp.lss 3 (Go.Operand.tmp 46) (Go.Operand.tmp 48) j_9 t48) w27 fun t49 w28 =>
            CondP t49 0 (fun (k18 : N0) =>
              k18 w28)
            (fun (k19 : N0) =>
              k16 was_8 j_9 w28)
            (fun (w29 : World) => 
            JoinP 1 (fun (k20 : N1) =>
              JoinP 2 (fun (k21 : N2) =>
                LoopP 2 (fun (k22 : N2) => (fun (c_10 : Value) (i_11 : Value) (w30 : World) => 
                  Run Try.prog (Instr.indexAt 47 gs_3 j_9) w30 fun t55 w31 =>
                  Run Try.prog (Instr.loadAt 150 t55) w31 fun t56 w32 =>
                  Run Try.prog (Builtin.len_ #[150] 3 #[t56]) w32 fun t57 w33 =>
                  Run Try.prog (binSem Go.BinOp.lss 3 (Go.Operand.tmp 52) (Go.Operand.tmp 57) i_11 t57) w33 fun t58 w34 =>
                  CondP t58 0 (fun (k23 : N0) =>
                    k23 w34)
                  (fun (k24 : N0) =>
                    k21 c_10 i_11 w34)
                  (fun (w35 : World) => 
                  JoinP 1 (fun (k25 : N1) =>
                    Run Try.prog (Instr.indexAt 47 gs_3 j_9) w35 fun t64 w36 =>
                    Run Try.prog (Instr.loadAt 150 t64) w36 fun t65 w37 =>
                    Run Try.prog (Instr.indexAt 150 t65 i_11) w37 fun t67 w38 =>
                    Run Try.prog (Instr.loadAt 4 t67) w38 fun t68 w39 =>
                    Run Try.prog (Instr.buildSlice 150 1 #[(0, t68)]) w39 fun t69 w40 =>
                    Run Try.prog (Builtin.append_ #[150, 150] 150 #[c_10, t69]) w40 fun t70 w41 =>
                    k25 t70 w41)
                  (fun (c_10 : Value) (w42 : World) => 
                  Run Try.prog (binSem Go.BinOp.add 3 (Go.Operand.tmp 59) (Go.Operand.const (Go.Value.int Go.IntKind.i64 1)) i_11 (Go.Value.int Go.IntKind.i64 1)) w42 fun t60 w43 =>
                  k22 c_10 t60 w43))))
                [(Go.Value.slice none 0 0), (Go.Value.int Go.IntKind.i64 0)] w29)
              (fun (c_10 : Value) (i_11 : Value) (w44 : World) => 
              Run Try.prog (Instr.buildSlice 47 1 #[(0, c_10)]) w44 fun t73 w45 =>
              Run Try.prog (Builtin.append_ #[47, 47] 47 #[was_8, t73]) w45 fun t74 w46 =>
              k20 t74 w46))
            (fun (was_8 : Value) (w47 : World) => 
            Run Try.prog (binSem Go.BinOp.add 3 (Go.Operand.tmp 50) (Go.Operand.const (Go.Value.int Go.IntKind.i64 1)) j_9 (Go.Value.int Go.IntKind.i64 1)) w47 fun t51 w48 =>
            k17 was_8 t51 w48))))
          [(Go.Value.slice none 0 0), (Go.Value.int Go.IntKind.i64 0)] w25)
        (fun (was_8 : Value) (j_9 : Value) (w49 : World) => 
        JoinP 1 (fun (k26 : N1) =>
          LoopP 1 (fun (k27 : N1) => (fun (i_12 : Value) (w50 : World) => 
            Run Try.prog (Instr.indexAt 47 ls_0 k_7) w50 fun t78 w51 =>
            Run Try.prog (Instr.loadAt 150 t78) w51 fun t79 w52 =>
            Run Try.prog (Builtin.len_ #[150] 3 #[t79]) w52 fun t80 w53 =>
            Run Try.prog (binSem Go.BinOp.lss 3 (Go.Operand.tmp 75) (Go.Operand.tmp 80) i_12 t80) w53 fun t81 w54 =>
            CondP t81 0 (fun (k28 : N0) =>
              k28 w54)
            (fun (k29 : N0) =>
              k26 i_12 w54)
            (fun (w55 : World) => 
            JoinP 0 (fun (k30 : N0) =>
              ∀ w56, Ext w55 w56 →
              RunQ Try.prog (Instr.indexAt 47 ls_0 k_7) w56 fun t86 =>
              RunQ Try.prog (Instr.loadAt 150 t86) w56 fun t87 =>
              RunQ Try.prog (Instr.indexAt 47 ls_0 k_7) w56 fun t91 =>
              RunQ Try.prog (Instr.loadAt 150 t91) w56 fun t92 =>
              RunQ Try.prog (Instr.indexAt 150 t92 i_12) w56 fun t94 =>
              RunQ Try.prog (Instr.loadAt 4 t94) w56 fun t95 =>
              RunQ Try.prog (Op.unary Go.UnOp.not t95) w56 fun t96 =>
              RunQ Try.prog (Instr.indexAt 150 t87 i_12) w56 fun t97 =>
              RunU Try.prog (Instr.storeAt 4 t97 t96) w56 fun w57 =>
              k30 w57)
            (fun (w58 : World) => 
            Run Try.prog (binSem Go.BinOp.add 3 (Go.Operand.tmp 82) (Go.Operand.const (Go.Value.int Go.IntKind.i64 1)) i_12 (Go.Value.int Go.IntKind.i64 1)) w58 fun t83 w59 =>
            k27 t83 w59))))
          [(Go.Value.int Go.IntKind.i64 0)] w49)
        (fun (i_12 : Value) (w60 : World) => 
        JoinP 1 (fun (k31 : N1) =>
          LoopP 1 (fun (k32 : N1) => (fun (i_13 : Value) (w61 : World) => 
            Run Try.prog (Instr.indexAt 47 gs_3 k_7) w61 fun t101 w62 =>
            Run Try.prog (Instr.loadAt 150 t101) w62 fun t102 w63 =>
            Run Try.prog (Builtin.len_ #[150] 3 #[t102]) w63 fun t103 w64 =>
            Run Try.prog (binSem Go.BinOp.lss 3 (Go.Operand.tmp 98) (Go.Operand.tmp 103) i_13 t103) w64 fun t104 w65 =>
            CondP t104 0 (fun (k33 : N0) =>
              k33 w65)
            (fun (k34 : N0) =>
              k31 i_13 w65)
            (fun (w66 : World) => 
            JoinP 0 (fun (k35 : N0) =>
              ∀ w67, Ext w66 w67 →
              RunQ Try.prog (Instr.indexAt 47 ls_0 k_7) w67 fun t110 =>
              RunQ Try.prog (Instr.loadAt 150 t110) w67 fun t111 =>
              RunQ Try.prog (Builtin.len_ #[150] 3 #[t111]) w67 fun t112 =>
              RunQ Try.prog (binSem Go.BinOp.geq 3 (Go.Operand.tmp 107) (Go.Operand.tmp 112) i_13 t112) w67 fun t113 =>
              GuardQ t113 false (fun (k36 : Value → Prop) => k36 gs_3) fun t115 =>
              GuardQ t113 false (fun (k37 : Value → Prop) => k37 k_7) fun t116 =>
              GuardQ t113 false (fun (k38 : Value → Prop) => RunQ Try.prog (Instr.indexAt 47 t115 t116) w67 k38) fun t117 =>
              GuardQ t113 false (fun (k39 : Value → Prop) => RunQ Try.prog (Instr.loadAt 150 t117) w67 k39) fun t118 =>
              GuardQ t113 false (fun (k40 : Value → Prop) => k40 i_13) fun t119 =>
              GuardQ t113 false (fun (k41 : Value → Prop) => RunQ Try.prog (Instr.indexAt 150 t118 t119) w67 k41) fun t120 =>
              GuardQ t113 false (fun (k42 : Value → Prop) => RunQ Try.prog (Instr.loadAt 4 t120) w67 k42) fun t121 =>
              GuardQ t113 false (fun (k43 : Value → Prop) => k43 was_8) fun t122 =>
              GuardQ t113 false (fun (k44 : Value → Prop) => k44 k_7) fun t123 =>
              GuardQ t113 false (fun (k45 : Value → Prop) => RunQ Try.prog (Instr.indexAt 47 t122 t123) w67 k45) fun t124 =>
              GuardQ t113 false (fun (k46 : Value → Prop) => RunQ Try.prog (Instr.loadAt 150 t124) w67 k46) fun t125 =>
              GuardQ t113 false (fun (k47 : Value → Prop) => k47 i_13) fun t126 =>
              GuardQ t113 false (fun (k48 : Value → Prop) => RunQ Try.prog (Instr.indexAt 150 t125 t126) w67 k48) fun t127 =>
              GuardQ t113 false (fun (k49 : Value → Prop) => RunQ Try.prog (Instr.loadAt 4 t127) w67 k49) fun t128 =>
              GuardQ t113 false (fun (k50 : Value → Prop) => RunQ Try.prog (binSem Go.BinOp.eql 4 (Go.Operand.tmp 121) (Go.Operand.tmp 128) t121 t128) w67 k50) fun t129 =>
              PickQ t113 (Go.Value.bool true) t129 fun t130 =>
              CondP t130 0 (fun (k51 : N0) =>
                ∀ w68, Ext w67 w68 →
                RunQ Try.prog (Instr.indexAt 47 gs_3 k_7) w68 fun t133 =>
                RunQ Try.prog (Instr.loadAt 150 t133) w68 fun t134 =>
                RunQ Try.prog (Instr.indexAt 47 gs_3 k_7) w68 fun t138 =>
                RunQ Try.prog (Instr.loadAt 150 t138) w68 fun t139 =>
                RunQ Try.prog (Instr.indexAt 150 t139 i_13) w68 fun t141 =>
                RunQ Try.prog (Instr.loadAt 4 t141) w68 fun t142 =>
                RunQ Try.prog (Op.unary Go.UnOp.not t142) w68 fun t143 =>
                RunQ Try.prog (Instr.indexAt 150 t134 i_13) w68 fun t144 =>
                RunU Try.prog (Instr.storeAt 4 t144 t143) w68 fun w69 =>
                k51 w69)
              (fun (k52 : N0) =>
                k52 w67)
              (fun (w70 : World) => 
              k35 w70))
            (fun (w71 : World) => 
            Run Try.prog (binSem Go.BinOp.add 3 (Go.Operand.tmp 105) (Go.Operand.const (Go.Value.int Go.IntKind.i64 1)) i_13 (Go.Value.int Go.IntKind.i64 1)) w71 fun t106 w72 =>
            k32 t106 w72))))
          [(Go.Value.int Go.IntKind.i64 0)] w60)
        (fun (i_13 : Value) (w73 : World) => 
        JoinP 2 (fun (k53 : N2) =>
          LoopP 2 (fun (k54 : N2) => (fun (t2 : Value) (j_14 : Value) (w74 : World) => 
            Run Try.prog (Builtin.len_ #[47] 3 #[gs_3]) w74 fun t147 w75 =>
            Run Try.prog (binSem Go.BinOp.lss 3 (Go.Operand.tmp 145) (Go.Operand.tmp 147) j_14 t147) w75 fun t148 w76 =>
            CondP t148 0 (fun (k55 : N0) =>
              k55 w76)
            (fun (k56 : N0) =>
              k53 t2 j_14 w76)
            (fun (w77 : World) => 
            JoinP 1 (fun (k57 : N1) =>
              JoinP 2 (fun (k58 : N2) =>
                LoopP 2 (fun (k59 : N2) => (fun (t2 : Value) (i_15 : Value) (w78 : World) => 
                  Run Try.prog (Instr.indexAt 47 gs_3 j_14) w78 fun t154 w79 =>
                  Run Try.prog (Instr.loadAt 150 t154) w79 fun t155 w80 =>
                  Run Try.prog (Builtin.len_ #[150] 3 #[t155]) w80 fun t156 w81 =>
                  Run Try.prog (binSem Go.BinOp.lss 3 (Go.Operand.tmp 151) (Go.Operand.tmp 156) i_15 t156) w81 fun t157 w82 =>
                  CondP t157 0 (fun (k60 : N0) =>
                    k60 w82)
                  (fun (k61 : N0) =>
                    k58 t2 i_15 w82)
                  (fun (w83 : World) => 
                  JoinP 1 (fun (k62 : N1) =>
                    ∀ w84, Ext w83 w84 →
                    RunQ Try.prog (Instr.indexAt 47 gs_3 j_14) w84 fun t162 =>
                    RunQ Try.prog (Instr.loadAt 150 t162) w84 fun t163 =>
                    RunQ Try.prog (Instr.indexAt 150 t163 i_15) w84 fun t165 =>
                    RunQ Try.prog (Instr.loadAt 4 t165) w84 fun t166 =>
                    RunQ Try.prog (Instr.indexAt 47 was_8 j_14) w84 fun t169 =>
                    RunQ Try.prog (Instr.loadAt 150 t169) w84 fun t170 =>
                    RunQ Try.prog (Instr.indexAt 150 t170 i_15) w84 fun t172 =>
                    RunQ Try.prog (Instr.loadAt 4 t172) w84 fun t173 =>
                    RunQ Try.prog (binSem Go.BinOp.eql 4 (Go.Operand.tmp 166) (Go.Operand.tmp 173) t166 t173) w84 fun t174 =>
                    RunQ Try.prog (binSem Go.BinOp.neq 3 (Go.Operand.tmp 175) (Go.Operand.tmp 176) j_14 k_7) w84 fun t177 =>
                    RunQ Try.prog (binSem Go.BinOp.neq 4 (Go.Operand.tmp 174) (Go.Operand.tmp 177) t174 t177) w84 fun t178 =>
                    CondP t178 1 (fun (k63 : N1) =>
                      R (Go.Value.bool false) w84)
                    (fun (k64 : N1) =>
                      k64 t2 w84)
                    (fun (t2 : Value) (w85 : World) => 
                    k62 t2 w85))
                  (fun (t2 : Value) (w86 : World) => 
                  Run Try.prog (binSem Go.BinOp.add 3 (Go.Operand.tmp 158) (Go.Operand.const (Go.Value.int Go.IntKind.i64 1)) i_15 (Go.Value.int Go.IntKind.i64 1)) w86 fun t159 w87 =>
                  k59 t2 t159 w87))))
                [t2, (Go.Value.int Go.IntKind.i64 0)] w77)
              (fun (t2 : Value) (i_15 : Value) (w88 : World) => 
              k57 t2 w88))
            (fun (t2 : Value) (w89 : World) => 
            Run Try.prog (binSem Go.BinOp.add 3 (Go.Operand.tmp 149) (Go.Operand.const (Go.Value.int Go.IntKind.i64 1)) j_14 (Go.Value.int Go.IntKind.i64 1)) w89 fun t150 w90 =>
            k54 t2 t150 w90))))
          [t2, (Go.Value.int Go.IntKind.i64 0)] w73)
        (fun (t2 : Value) (j_14 : Value) (w91 : World) => 
        k15 t2 w91)))))
      (fun (t2 : Value) (w92 : World) => 
      Run Try.prog (binSem Go.BinOp.add 3 (Go.Operand.tmp 44) (Go.Operand.const (Go.Value.int Go.IntKind.i64 1)) k_7 (Go.Value.int Go.IntKind.i64 1)) w92 fun t45 w93 =>
      k12 t2 t45 w93))))
    [(Go.Value.bool false), (Go.Value.int Go.IntKind.i64 0)] w21)
  (fun (t2 : Value) (k_7 : Value) (w94 : World) => 
  R (Go.Value.bool true) w94))
theorem S40_eq (ls_0 : Value) (w : World) (R : Value → World → Prop) : vcFn Try.prog Try.f40 [ls_0] w R = S40 ls_0 w R := by kernel_rfl
theorem D40 {ls_0 : Value} {w : World} {R : Value → World → Prop} (h : S40 ls_0 w R) : Does Try.prog 40 [ls_0] w R :=
  does_of_vc mixed Try.func40 (by kernel_rfl) (by kernel_rfl) ((S40_eq ls_0 w R).mpr h)

/-- busbar/busbarkit.apartSignals -/
def S41 (ls_0 : Value) (w : World) (R : Value → World → Prop) : Prop :=
  JoinP 1 (fun (k1 : N1) =>
    LoopP 1 (fun (k2 : N1) => (fun (k_3 : Value) (w1 : World) => 
      Run Try.prog (Builtin.len_ #[48] 3 #[ls_0]) w1 fun t15 w2 =>
      Run Try.prog (binSem Go.BinOp.lss 3 (Go.Operand.tmp 13) (Go.Operand.tmp 15) k_3 t15) w2 fun t16 w3 =>
      CondP t16 0 (fun (k3 : N0) =>
        k3 w3)
      (fun (k4 : N0) =>
        k1 k_3 w3)
      (fun (w4 : World) => 
      JoinP 0 (fun (k5 : N0) =>
        JoinP 1 (fun (k6 : N1) =>
          LoopP 1 (fun (k7 : N1) => (fun (i_4 : Value) (w5 : World) => 
            Run Try.prog (Instr.indexAt 48 ls_0 k_3) w5 fun t22 w6 =>
            Run Try.prog (Instr.loadAt 60 t22) w6 fun t23 w7 =>
            Run Try.prog (Builtin.len_ #[60] 3 #[t23]) w7 fun t24 w8 =>
            Run Try.prog (binSem Go.BinOp.lss 3 (Go.Operand.tmp 19) (Go.Operand.tmp 24) i_4 t24) w8 fun t25 w9 =>
            CondP t25 0 (fun (k8 : N0) =>
              k8 w9)
            (fun (k9 : N0) =>
              k6 i_4 w9)
            (fun (w10 : World) => 
            JoinP 0 (fun (k10 : N0) =>
              Run Try.prog (Instr.indexAt 48 ls_0 k_3) w10 fun t30 w11 =>
              Run Try.prog (Instr.loadAt 60 t30) w11 fun t31 w12 =>
              Run Try.prog (binSem Go.BinOp.add 3 (Go.Operand.tmp 33) (Go.Operand.const (Go.Value.int Go.IntKind.i64 1)) k_3 (Go.Value.int Go.IntKind.i64 1)) w12 fun t34 w13 =>
              Run Try.prog (binSem Go.BinOp.mul 3 (Go.Operand.const (Go.Value.int Go.IntKind.i64 (-1000000))) (Go.Operand.tmp 34) (Go.Value.int Go.IntKind.i64 (-1000000)) t34) w13 fun t35 w14 =>
              Run Try.prog (binSem Go.BinOp.sub 3 (Go.Operand.tmp 35) (Go.Operand.tmp 36) t35 i_4) w14 fun t37 w15 =>
              Run Try.prog (Instr.build 119 #[(4, t37)]) w15 fun t38 w16 =>
              Run Try.prog (Instr.indexAt 60 t31 i_4) w16 fun t39 w17 =>
              RunU Try.prog (Instr.storeAt 119 t39 t38) w17 fun w18 =>
              k10 w18)
            (fun (w19 : World) => 
            Run Try.prog (binSem Go.BinOp.add 3 (Go.Operand.tmp 26) (Go.Operand.const (Go.Value.int Go.IntKind.i64 1)) i_4 (Go.Value.int Go.IntKind.i64 1)) w19 fun t27 w20 =>
            k7 t27 w20))))
          [(Go.Value.int Go.IntKind.i64 0)] w4)
        (fun (i_4 : Value) (w21 : World) => 
        k5 w21))
      (fun (w22 : World) => 
      Run Try.prog (binSem Go.BinOp.add 3 (Go.Operand.tmp 17) (Go.Operand.const (Go.Value.int Go.IntKind.i64 1)) k_3 (Go.Value.int Go.IntKind.i64 1)) w22 fun t18 w23 =>
      k2 t18 w23))))
    [(Go.Value.int Go.IntKind.i64 0)] w)
  (fun (k_3 : Value) (w24 : World) => 
  JoinP 2 (fun (k11 : N2) =>
    LoopP 2 (fun (k12 : N2) => (fun (gs_5 : Value) (k_6 : Value) (w25 : World) => 
      Run Try.prog (Builtin.len_ #[48] 3 #[ls_0]) w25 fun t42 w26 =>
      Run Try.prog (binSem Go.BinOp.lss 3 (Go.Operand.tmp 40) (Go.Operand.tmp 42) k_6 t42) w26 fun t43 w27 =>
      CondP t43 0 (fun (k13 : N0) =>
        k13 w27)
      (fun (k14 : N0) =>
        k11 gs_5 k_6 w27)
      (fun (w28 : World) => 
      JoinP 1 (fun (k15 : N1) =>
        Run Try.prog (Instr.indexAt 48 ls_0 k_6) w28 fun t48 w29 =>
        Run Try.prog (Instr.loadAt 60 t48) w29 fun t49 w30 =>
        JoinP 2 (fun (k16 : N2) =>
          LoopP 2 (fun (k17 : N2) => (fun (g_7 : Value) (i_8 : Value) (w31 : World) => 
            Run Try.prog (binSem Go.BinOp.lss 3 (Go.Operand.tmp 50) (Go.Operand.const (Go.Value.int Go.IntKind.i64 64)) i_8 (Go.Value.int Go.IntKind.i64 64)) w31 fun t51 w32 =>
            CondP t51 0 (fun (k18 : N0) =>
              k18 w32)
            (fun (k19 : N0) =>
              k16 g_7 i_8 w32)
            (fun (w33 : World) => 
            JoinP 1 (fun (k20 : N1) =>
              Run Try.prog (Instr.indexAt 48 ls_0 k_6) w33 fun t56 w34 =>
              Run Try.prog (Instr.loadAt 60 t56) w34 fun t57 w35 =>
              Run Try.prog (Builtin.len_ #[60] 3 #[t57]) w35 fun t58 w36 =>
              Run Try.prog (binSem Go.BinOp.add 3 (Go.Operand.tmp 58) (Go.Operand.tmp 59) t58 i_8) w36 fun t60 w37 =>
              Run Try.prog (binSem Go.BinOp.add 3 (Go.Operand.tmp 62) (Go.Operand.const (Go.Value.int Go.IntKind.i64 1)) k_6 (Go.Value.int Go.IntKind.i64 1)) w37 fun t63 w38 =>
              Run Try.prog (binSem Go.BinOp.mul 3 (Go.Operand.const (Go.Value.int Go.IntKind.i64 (-1000000))) (Go.Operand.tmp 63) (Go.Value.int Go.IntKind.i64 (-1000000)) t63) w38 fun t64 w39 =>
              Run Try.prog (binSem Go.BinOp.sub 3 (Go.Operand.tmp 64) (Go.Operand.tmp 65) t64 t60) w39 fun t66 w40 =>
              Run Try.prog (Instr.build 119 #[(4, t66)]) w40 fun t67 w41 =>
              Run Try.prog (Instr.buildSlice 60 1 #[(0, t67)]) w41 fun t68 w42 =>
              Run Try.prog (Builtin.append_ #[60, 60] 60 #[g_7, t68]) w42 fun t69 w43 =>
              k20 t69 w43)
            (fun (g_7 : Value) (w44 : World) => 
            Run Try.prog (binSem Go.BinOp.add 3 (Go.Operand.tmp 52) (Go.Operand.const (Go.Value.int Go.IntKind.i64 1)) i_8 (Go.Value.int Go.IntKind.i64 1)) w44 fun t53 w45 =>
            k17 g_7 t53 w45))))
          [t49, (Go.Value.int Go.IntKind.i64 0)] w30)
        (fun (g_7 : Value) (i_8 : Value) (w46 : World) => 
        Run Try.prog (Instr.buildSlice 48 1 #[(0, g_7)]) w46 fun t72 w47 =>
        Run Try.prog (Builtin.append_ #[48, 48] 48 #[gs_5, t72]) w47 fun t73 w48 =>
        k15 t73 w48))
      (fun (gs_5 : Value) (w49 : World) => 
      Run Try.prog (binSem Go.BinOp.add 3 (Go.Operand.tmp 44) (Go.Operand.const (Go.Value.int Go.IntKind.i64 1)) k_6 (Go.Value.int Go.IntKind.i64 1)) w49 fun t45 w50 =>
      k12 gs_5 t45 w50))))
    [(Go.Value.slice none 0 0), (Go.Value.int Go.IntKind.i64 0)] w24)
  (fun (gs_5 : Value) (k_6 : Value) (w51 : World) => 
  JoinP 2 (fun (k21 : N2) =>
    LoopP 2 (fun (k22 : N2) => (fun (t2 : Value) (k_10 : Value) (w52 : World) => 
      Run Try.prog (Builtin.len_ #[48] 3 #[ls_0]) w52 fun t76 w53 =>
      Run Try.prog (binSem Go.BinOp.lss 3 (Go.Operand.tmp 74) (Go.Operand.tmp 76) k_10 t76) w53 fun t77 w54 =>
      CondP t77 0 (fun (k23 : N0) =>
        k23 w54)
      (fun (k24 : N0) =>
        k21 t2 k_10 w54)
      (fun (w55 : World) => 
      JoinP 1 (fun (k25 : N1) =>
        JoinP 2 (fun (k26 : N2) =>
          LoopP 2 (fun (k27 : N2) => (fun (t2 : Value) (i_11 : Value) (w56 : World) => 
            Run Try.prog (Instr.indexAt 48 gs_5 k_10) w56 fun t83 w57 =>
            Run Try.prog (Instr.loadAt 60 t83) w57 fun t84 w58 =>
            Run Try.prog (Builtin.len_ #[60] 3 #[t84]) w58 fun t85 w59 =>
            Run Try.prog (binSem Go.BinOp.lss 3 (Go.Operand.tmp 80) (Go.Operand.tmp 85) i_11 t85) w59 fun t86 w60 =>
            CondP t86 0 (fun (k28 : N0) =>
              k28 w60)
            (fun (k29 : N0) =>
              k26 t2 i_11 w60)
            (fun (w61 : World) => 
            JoinP 1 (fun (k30 : N1) =>
              Run Try.prog (binSem Go.BinOp.add 3 (Go.Operand.tmp 89) (Go.Operand.const (Go.Value.int Go.IntKind.i64 1)) k_10 (Go.Value.int Go.IntKind.i64 1)) w61 fun t90 w62 =>
              Run Try.prog (binSem Go.BinOp.mul 3 (Go.Operand.const (Go.Value.int Go.IntKind.i64 (-1000000))) (Go.Operand.tmp 90) (Go.Value.int Go.IntKind.i64 (-1000000)) t90) w62 fun t91 w63 =>
              Run Try.prog (binSem Go.BinOp.sub 3 (Go.Operand.tmp 91) (Go.Operand.tmp 92) t91 i_11) w63 fun t93 w64 =>
              Run Try.prog (Instr.indexAt 48 gs_5 k_10) w64 fun t96 w65 =>
              Run Try.prog (Instr.loadAt 60 t96) w65 fun t97 w66 =>
              Run Try.prog (Instr.indexAt 60 t97 i_11) w66 fun t99 w67 =>
              Run Try.prog (Instr.fieldAt 119 t99 4) w67 fun t100 w68 =>
              Run Try.prog (Instr.loadAt 3 t100) w68 fun t101 w69 =>
              Run Try.prog (binSem Go.BinOp.neq 3 (Go.Operand.tmp 101) (Go.Operand.tmp 102) t101 t93) w69 fun t103 w70 =>
              GuardP t103 false (fun (k31 : N1) => k31 i_11 w70) w70 fun t105 w71 =>
              GuardP t103 false (fun (k32 : N1) => k32 ls_0 w71) w71 fun t106 w72 =>
              GuardP t103 false (fun (k33 : N1) => k33 k_10 w72) w72 fun t107 w73 =>
              GuardP t103 false (fun (k34 : N1) => Run Try.prog (Instr.indexAt 48 t106 t107) w73 k34) w73 fun t108 w74 =>
              GuardP t103 false (fun (k35 : N1) => Run Try.prog (Instr.loadAt 60 t108) w74 k35) w74 fun t109 w75 =>
              GuardP t103 false (fun (k36 : N1) => Run Try.prog (Builtin.len_ #[60] 3 #[t109]) w75 k36) w75 fun t110 w76 =>
              GuardP t103 false (fun (k37 : N1) => Run Try.prog (binSem Go.BinOp.lss 3 (Go.Operand.tmp 105) (Go.Operand.tmp 110) t105 t110) w76 k37) w76 fun t111 w77 =>
              GuardP t103 false (fun (k38 : N1) => k38 t111 w77) w77 fun t112 w78 =>
              GuardP t112 true (fun (k39 : N1) => k39 ls_0 w78) w78 fun t113 w79 =>
              GuardP t112 true (fun (k40 : N1) => k40 k_10 w79) w79 fun t114 w80 =>
              GuardP t112 true (fun (k41 : N1) => Run Try.prog (Instr.indexAt 48 t113 t114) w80 k41) w80 fun t115 w81 =>
              GuardP t112 true (fun (k42 : N1) => Run Try.prog (Instr.loadAt 60 t115) w81 k42) w81 fun t116 w82 =>
              GuardP t112 true (fun (k43 : N1) => k43 i_11 w82) w82 fun t117 w83 =>
              GuardP t112 true (fun (k44 : N1) => Run Try.prog (Instr.indexAt 60 t116 t117) w83 k44) w83 fun t118 w84 =>
              GuardP t112 true (fun (k45 : N1) => Run Try.prog (Instr.fieldAt 119 t118 4) w84 k45) w84 fun t119 w85 =>
              GuardP t112 true (fun (k46 : N1) => Run Try.prog (Instr.loadAt 3 t119) w85 k46) w85 fun t120 w86 =>
              GuardP t112 true (fun (k47 : N1) => k47 t93 w86) w86 fun t121 w87 =>
              GuardP t112 true (fun (k48 : N1) => Run Try.prog (binSem Go.BinOp.neq 3 (Go.Operand.tmp 120) (Go.Operand.tmp 121) t120 t121) w87 k48) w87 fun t122 w88 =>
              GuardP t103 false (fun (k49 : N1) => PickP t112 t122 (Go.Value.bool false) w88 k49) w88 fun t123 w89 =>
              PickP t103 (Go.Value.bool true) t123 w89 fun t124 w90 =>
              CondP t124 1 (fun (k50 : N1) =>
                R (Go.Value.bool false) w90)
              (fun (k51 : N1) =>
                k51 t2 w90)
              (fun (t2 : Value) (w91 : World) => 
              k30 t2 w91))
            (fun (t2 : Value) (w92 : World) => 
            Run Try.prog (binSem Go.BinOp.add 3 (Go.Operand.tmp 87) (Go.Operand.const (Go.Value.int Go.IntKind.i64 1)) i_11 (Go.Value.int Go.IntKind.i64 1)) w92 fun t88 w93 =>
            k27 t2 t88 w93))))
          [t2, (Go.Value.int Go.IntKind.i64 0)] w55)
        (fun (t2 : Value) (i_11 : Value) (w94 : World) => 
        k25 t2 w94))
      (fun (t2 : Value) (w95 : World) => 
      Run Try.prog (binSem Go.BinOp.add 3 (Go.Operand.tmp 78) (Go.Operand.const (Go.Value.int Go.IntKind.i64 1)) k_10 (Go.Value.int Go.IntKind.i64 1)) w95 fun t79 w96 =>
      k22 t2 t79 w96))))
    [(Go.Value.bool false), (Go.Value.int Go.IntKind.i64 0)] w51)
  (fun (t2 : Value) (k_10 : Value) (w97 : World) => 
  R (Go.Value.bool true) w97)))
theorem S41_eq (ls_0 : Value) (w : World) (R : Value → World → Prop) : vcFn Try.prog Try.f41 [ls_0] w R = S41 ls_0 w R := by kernel_rfl
theorem D41 {ls_0 : Value} {w : World} {R : Value → World → Prop} (h : S41 ls_0 w R) : Does Try.prog 41 [ls_0] w R :=
  does_of_vc mixed Try.func41 (by kernel_rfl) (by kernel_rfl) ((S41_eq ls_0 w R).mpr h)

/-- busbar/busbarkit.apartMessages -/
def S42 (ls_0 : Value) (w : World) (R : Value → World → Prop) : Prop :=
  JoinP 1 (fun (k1 : N1) =>
    LoopP 1 (fun (k2 : N1) => (fun (k_3 : Value) (w1 : World) => 
      Run Try.prog (Builtin.len_ #[49] 3 #[ls_0]) w1 fun t15 w2 =>
      Run Try.prog (binSem Go.BinOp.lss 3 (Go.Operand.tmp 13) (Go.Operand.tmp 15) k_3 t15) w2 fun t16 w3 =>
      CondP t16 0 (fun (k3 : N0) =>
        k3 w3)
      (fun (k4 : N0) =>
        k1 k_3 w3)
      (fun (w4 : World) => 
      JoinP 0 (fun (k5 : N0) =>
        JoinP 1 (fun (k6 : N1) =>
          LoopP 1 (fun (k7 : N1) => (fun (i_4 : Value) (w5 : World) => 
            Run Try.prog (Instr.indexAt 49 ls_0 k_3) w5 fun t22 w6 =>
            Run Try.prog (Instr.loadAt 29 t22) w6 fun t23 w7 =>
            Run Try.prog (Builtin.len_ #[29] 3 #[t23]) w7 fun t24 w8 =>
            Run Try.prog (binSem Go.BinOp.lss 3 (Go.Operand.tmp 19) (Go.Operand.tmp 24) i_4 t24) w8 fun t25 w9 =>
            CondP t25 0 (fun (k8 : N0) =>
              k8 w9)
            (fun (k9 : N0) =>
              k6 i_4 w9)
            (fun (w10 : World) => 
            JoinP 0 (fun (k10 : N0) =>
              Run Try.prog (Instr.indexAt 49 ls_0 k_3) w10 fun t30 w11 =>
              Run Try.prog (Instr.loadAt 29 t30) w11 fun t31 w12 =>
              Run Try.prog (binSem Go.BinOp.add 3 (Go.Operand.tmp 33) (Go.Operand.const (Go.Value.int Go.IntKind.i64 1)) k_3 (Go.Value.int Go.IntKind.i64 1)) w12 fun t34 w13 =>
              Run Try.prog (binSem Go.BinOp.mul 3 (Go.Operand.const (Go.Value.int Go.IntKind.i64 (-1000000))) (Go.Operand.tmp 34) (Go.Value.int Go.IntKind.i64 (-1000000)) t34) w13 fun t35 w14 =>
              Run Try.prog (binSem Go.BinOp.sub 3 (Go.Operand.tmp 35) (Go.Operand.tmp 36) t35 i_4) w14 fun t37 w15 =>
              Run Try.prog (Instr.build 62 #[(4, t37)]) w15 fun t38 w16 =>
              Run Try.prog (Instr.indexAt 29 t31 i_4) w16 fun t39 w17 =>
              RunU Try.prog (Instr.storeAt 62 t39 t38) w17 fun w18 =>
              k10 w18)
            (fun (w19 : World) => 
            Run Try.prog (binSem Go.BinOp.add 3 (Go.Operand.tmp 26) (Go.Operand.const (Go.Value.int Go.IntKind.i64 1)) i_4 (Go.Value.int Go.IntKind.i64 1)) w19 fun t27 w20 =>
            k7 t27 w20))))
          [(Go.Value.int Go.IntKind.i64 0)] w4)
        (fun (i_4 : Value) (w21 : World) => 
        k5 w21))
      (fun (w22 : World) => 
      Run Try.prog (binSem Go.BinOp.add 3 (Go.Operand.tmp 17) (Go.Operand.const (Go.Value.int Go.IntKind.i64 1)) k_3 (Go.Value.int Go.IntKind.i64 1)) w22 fun t18 w23 =>
      k2 t18 w23))))
    [(Go.Value.int Go.IntKind.i64 0)] w)
  (fun (k_3 : Value) (w24 : World) => 
  JoinP 2 (fun (k11 : N2) =>
    LoopP 2 (fun (k12 : N2) => (fun (gs_5 : Value) (k_6 : Value) (w25 : World) => 
      Run Try.prog (Builtin.len_ #[49] 3 #[ls_0]) w25 fun t42 w26 =>
      Run Try.prog (binSem Go.BinOp.lss 3 (Go.Operand.tmp 40) (Go.Operand.tmp 42) k_6 t42) w26 fun t43 w27 =>
      CondP t43 0 (fun (k13 : N0) =>
        k13 w27)
      (fun (k14 : N0) =>
        k11 gs_5 k_6 w27)
      (fun (w28 : World) => 
      JoinP 1 (fun (k15 : N1) =>
        Run Try.prog (Instr.indexAt 49 ls_0 k_6) w28 fun t48 w29 =>
        Run Try.prog (Instr.loadAt 29 t48) w29 fun t49 w30 =>
        JoinP 2 (fun (k16 : N2) =>
          LoopP 2 (fun (k17 : N2) => (fun (g_7 : Value) (i_8 : Value) (w31 : World) => 
            Run Try.prog (binSem Go.BinOp.lss 3 (Go.Operand.tmp 50) (Go.Operand.const (Go.Value.int Go.IntKind.i64 64)) i_8 (Go.Value.int Go.IntKind.i64 64)) w31 fun t51 w32 =>
            CondP t51 0 (fun (k18 : N0) =>
              k18 w32)
            (fun (k19 : N0) =>
              k16 g_7 i_8 w32)
            (fun (w33 : World) => 
            JoinP 1 (fun (k20 : N1) =>
              Run Try.prog (Instr.indexAt 49 ls_0 k_6) w33 fun t56 w34 =>
              Run Try.prog (Instr.loadAt 29 t56) w34 fun t57 w35 =>
              Run Try.prog (Builtin.len_ #[29] 3 #[t57]) w35 fun t58 w36 =>
              Run Try.prog (binSem Go.BinOp.add 3 (Go.Operand.tmp 58) (Go.Operand.tmp 59) t58 i_8) w36 fun t60 w37 =>
              Run Try.prog (binSem Go.BinOp.add 3 (Go.Operand.tmp 62) (Go.Operand.const (Go.Value.int Go.IntKind.i64 1)) k_6 (Go.Value.int Go.IntKind.i64 1)) w37 fun t63 w38 =>
              Run Try.prog (binSem Go.BinOp.mul 3 (Go.Operand.const (Go.Value.int Go.IntKind.i64 (-1000000))) (Go.Operand.tmp 63) (Go.Value.int Go.IntKind.i64 (-1000000)) t63) w38 fun t64 w39 =>
              Run Try.prog (binSem Go.BinOp.sub 3 (Go.Operand.tmp 64) (Go.Operand.tmp 65) t64 t60) w39 fun t66 w40 =>
              Run Try.prog (Instr.build 62 #[(4, t66)]) w40 fun t67 w41 =>
              Run Try.prog (Instr.buildSlice 29 1 #[(0, t67)]) w41 fun t68 w42 =>
              Run Try.prog (Builtin.append_ #[29, 29] 29 #[g_7, t68]) w42 fun t69 w43 =>
              k20 t69 w43)
            (fun (g_7 : Value) (w44 : World) => 
            Run Try.prog (binSem Go.BinOp.add 3 (Go.Operand.tmp 52) (Go.Operand.const (Go.Value.int Go.IntKind.i64 1)) i_8 (Go.Value.int Go.IntKind.i64 1)) w44 fun t53 w45 =>
            k17 g_7 t53 w45))))
          [t49, (Go.Value.int Go.IntKind.i64 0)] w30)
        (fun (g_7 : Value) (i_8 : Value) (w46 : World) => 
        Run Try.prog (Instr.buildSlice 49 1 #[(0, g_7)]) w46 fun t72 w47 =>
        Run Try.prog (Builtin.append_ #[49, 49] 49 #[gs_5, t72]) w47 fun t73 w48 =>
        k15 t73 w48))
      (fun (gs_5 : Value) (w49 : World) => 
      Run Try.prog (binSem Go.BinOp.add 3 (Go.Operand.tmp 44) (Go.Operand.const (Go.Value.int Go.IntKind.i64 1)) k_6 (Go.Value.int Go.IntKind.i64 1)) w49 fun t45 w50 =>
      k12 gs_5 t45 w50))))
    [(Go.Value.slice none 0 0), (Go.Value.int Go.IntKind.i64 0)] w24)
  (fun (gs_5 : Value) (k_6 : Value) (w51 : World) => 
  JoinP 2 (fun (k21 : N2) =>
    LoopP 2 (fun (k22 : N2) => (fun (t2 : Value) (k_10 : Value) (w52 : World) => 
      Run Try.prog (Builtin.len_ #[49] 3 #[ls_0]) w52 fun t76 w53 =>
      Run Try.prog (binSem Go.BinOp.lss 3 (Go.Operand.tmp 74) (Go.Operand.tmp 76) k_10 t76) w53 fun t77 w54 =>
      CondP t77 0 (fun (k23 : N0) =>
        k23 w54)
      (fun (k24 : N0) =>
        k21 t2 k_10 w54)
      (fun (w55 : World) => 
      JoinP 1 (fun (k25 : N1) =>
        JoinP 2 (fun (k26 : N2) =>
          LoopP 2 (fun (k27 : N2) => (fun (t2 : Value) (i_11 : Value) (w56 : World) => 
            Run Try.prog (Instr.indexAt 49 gs_5 k_10) w56 fun t83 w57 =>
            Run Try.prog (Instr.loadAt 29 t83) w57 fun t84 w58 =>
            Run Try.prog (Builtin.len_ #[29] 3 #[t84]) w58 fun t85 w59 =>
            Run Try.prog (binSem Go.BinOp.lss 3 (Go.Operand.tmp 80) (Go.Operand.tmp 85) i_11 t85) w59 fun t86 w60 =>
            CondP t86 0 (fun (k28 : N0) =>
              k28 w60)
            (fun (k29 : N0) =>
              k26 t2 i_11 w60)
            (fun (w61 : World) => 
            JoinP 1 (fun (k30 : N1) =>
              Run Try.prog (binSem Go.BinOp.add 3 (Go.Operand.tmp 89) (Go.Operand.const (Go.Value.int Go.IntKind.i64 1)) k_10 (Go.Value.int Go.IntKind.i64 1)) w61 fun t90 w62 =>
              Run Try.prog (binSem Go.BinOp.mul 3 (Go.Operand.const (Go.Value.int Go.IntKind.i64 (-1000000))) (Go.Operand.tmp 90) (Go.Value.int Go.IntKind.i64 (-1000000)) t90) w62 fun t91 w63 =>
              Run Try.prog (binSem Go.BinOp.sub 3 (Go.Operand.tmp 91) (Go.Operand.tmp 92) t91 i_11) w63 fun t93 w64 =>
              Run Try.prog (Instr.indexAt 49 gs_5 k_10) w64 fun t96 w65 =>
              Run Try.prog (Instr.loadAt 29 t96) w65 fun t97 w66 =>
              Run Try.prog (Instr.indexAt 29 t97 i_11) w66 fun t99 w67 =>
              Run Try.prog (Instr.fieldAt 62 t99 4) w67 fun t100 w68 =>
              Run Try.prog (Instr.loadAt 3 t100) w68 fun t101 w69 =>
              Run Try.prog (binSem Go.BinOp.neq 3 (Go.Operand.tmp 101) (Go.Operand.tmp 102) t101 t93) w69 fun t103 w70 =>
              GuardP t103 false (fun (k31 : N1) => k31 i_11 w70) w70 fun t105 w71 =>
              GuardP t103 false (fun (k32 : N1) => k32 ls_0 w71) w71 fun t106 w72 =>
              GuardP t103 false (fun (k33 : N1) => k33 k_10 w72) w72 fun t107 w73 =>
              GuardP t103 false (fun (k34 : N1) => Run Try.prog (Instr.indexAt 49 t106 t107) w73 k34) w73 fun t108 w74 =>
              GuardP t103 false (fun (k35 : N1) => Run Try.prog (Instr.loadAt 29 t108) w74 k35) w74 fun t109 w75 =>
              GuardP t103 false (fun (k36 : N1) => Run Try.prog (Builtin.len_ #[29] 3 #[t109]) w75 k36) w75 fun t110 w76 =>
              GuardP t103 false (fun (k37 : N1) => Run Try.prog (binSem Go.BinOp.lss 3 (Go.Operand.tmp 105) (Go.Operand.tmp 110) t105 t110) w76 k37) w76 fun t111 w77 =>
              GuardP t103 false (fun (k38 : N1) => k38 t111 w77) w77 fun t112 w78 =>
              GuardP t112 true (fun (k39 : N1) => k39 ls_0 w78) w78 fun t113 w79 =>
              GuardP t112 true (fun (k40 : N1) => k40 k_10 w79) w79 fun t114 w80 =>
              GuardP t112 true (fun (k41 : N1) => Run Try.prog (Instr.indexAt 49 t113 t114) w80 k41) w80 fun t115 w81 =>
              GuardP t112 true (fun (k42 : N1) => Run Try.prog (Instr.loadAt 29 t115) w81 k42) w81 fun t116 w82 =>
              GuardP t112 true (fun (k43 : N1) => k43 i_11 w82) w82 fun t117 w83 =>
              GuardP t112 true (fun (k44 : N1) => Run Try.prog (Instr.indexAt 29 t116 t117) w83 k44) w83 fun t118 w84 =>
              GuardP t112 true (fun (k45 : N1) => Run Try.prog (Instr.fieldAt 62 t118 4) w84 k45) w84 fun t119 w85 =>
              GuardP t112 true (fun (k46 : N1) => Run Try.prog (Instr.loadAt 3 t119) w85 k46) w85 fun t120 w86 =>
              GuardP t112 true (fun (k47 : N1) => k47 t93 w86) w86 fun t121 w87 =>
              GuardP t112 true (fun (k48 : N1) => Run Try.prog (binSem Go.BinOp.neq 3 (Go.Operand.tmp 120) (Go.Operand.tmp 121) t120 t121) w87 k48) w87 fun t122 w88 =>
              GuardP t103 false (fun (k49 : N1) => PickP t112 t122 (Go.Value.bool false) w88 k49) w88 fun t123 w89 =>
              PickP t103 (Go.Value.bool true) t123 w89 fun t124 w90 =>
              CondP t124 1 (fun (k50 : N1) =>
                R (Go.Value.bool false) w90)
              (fun (k51 : N1) =>
                k51 t2 w90)
              (fun (t2 : Value) (w91 : World) => 
              k30 t2 w91))
            (fun (t2 : Value) (w92 : World) => 
            Run Try.prog (binSem Go.BinOp.add 3 (Go.Operand.tmp 87) (Go.Operand.const (Go.Value.int Go.IntKind.i64 1)) i_11 (Go.Value.int Go.IntKind.i64 1)) w92 fun t88 w93 =>
            k27 t2 t88 w93))))
          [t2, (Go.Value.int Go.IntKind.i64 0)] w55)
        (fun (t2 : Value) (i_11 : Value) (w94 : World) => 
        k25 t2 w94))
      (fun (t2 : Value) (w95 : World) => 
      Run Try.prog (binSem Go.BinOp.add 3 (Go.Operand.tmp 78) (Go.Operand.const (Go.Value.int Go.IntKind.i64 1)) k_10 (Go.Value.int Go.IntKind.i64 1)) w95 fun t79 w96 =>
      k22 t2 t79 w96))))
    [(Go.Value.bool false), (Go.Value.int Go.IntKind.i64 0)] w51)
  (fun (t2 : Value) (k_10 : Value) (w97 : World) => 
  R (Go.Value.bool true) w97)))
theorem S42_eq (ls_0 : Value) (w : World) (R : Value → World → Prop) : vcFn Try.prog Try.f42 [ls_0] w R = S42 ls_0 w R := by kernel_rfl
theorem D42 {ls_0 : Value} {w : World} {R : Value → World → Prop} (h : S42 ls_0 w R) : Does Try.prog 42 [ls_0] w R :=
  does_of_vc mixed Try.func42 (by kernel_rfl) (by kernel_rfl) ((S42_eq ls_0 w R).mpr h)

/-- busbar/busbarkit.apartTables -/
def S43 (ls_0 : Value) (w : World) (R : Value → World → Prop) : Prop :=
  JoinP 1 (fun (k1 : N1) =>
    LoopP 1 (fun (k2 : N1) => (fun (k_3 : Value) (w1 : World) => 
      Run Try.prog (Builtin.len_ #[50] 3 #[ls_0]) w1 fun t15 w2 =>
      Run Try.prog (binSem Go.BinOp.lss 3 (Go.Operand.tmp 13) (Go.Operand.tmp 15) k_3 t15) w2 fun t16 w3 =>
      CondP t16 0 (fun (k3 : N0) =>
        k3 w3)
      (fun (k4 : N0) =>
        k1 k_3 w3)
      (fun (w4 : World) => 
      JoinP 0 (fun (k5 : N0) =>
        JoinP 1 (fun (k6 : N1) =>
          LoopP 1 (fun (k7 : N1) => (fun (i_4 : Value) (w5 : World) => 
            Run Try.prog (Instr.indexAt 50 ls_0 k_3) w5 fun t22 w6 =>
            Run Try.prog (Instr.loadAt 30 t22) w6 fun t23 w7 =>
            Run Try.prog (Builtin.len_ #[30] 3 #[t23]) w7 fun t24 w8 =>
            Run Try.prog (binSem Go.BinOp.lss 3 (Go.Operand.tmp 19) (Go.Operand.tmp 24) i_4 t24) w8 fun t25 w9 =>
            CondP t25 0 (fun (k8 : N0) =>
              k8 w9)
            (fun (k9 : N0) =>
              k6 i_4 w9)
            (fun (w10 : World) => 
            JoinP 0 (fun (k10 : N0) =>
              ∀ w11, Ext w10 w11 →
              RunQ Try.prog (Instr.indexAt 50 ls_0 k_3) w11 fun t30 =>
              RunQ Try.prog (Instr.loadAt 30 t30) w11 fun t31 =>
              GoN Try.prog (callFunc 71 #[k_3, i_4]) w11 fun t35 w12 => Ext w11 w12 ∧
              RunQ Try.prog (Instr.build 79 #[(3, t35)]) w11 fun t36 =>
              RunQ Try.prog (Instr.indexAt 30 t31 i_4) w11 fun t37 =>
              RunU Try.prog (Instr.storeAt 79 t37 t36) w12 fun w13 =>
              k10 w13)
            (fun (w14 : World) => 
            Run Try.prog (binSem Go.BinOp.add 3 (Go.Operand.tmp 26) (Go.Operand.const (Go.Value.int Go.IntKind.i64 1)) i_4 (Go.Value.int Go.IntKind.i64 1)) w14 fun t27 w15 =>
            k7 t27 w15))))
          [(Go.Value.int Go.IntKind.i64 0)] w4)
        (fun (i_4 : Value) (w16 : World) => 
        k5 w16))
      (fun (w17 : World) => 
      Run Try.prog (binSem Go.BinOp.add 3 (Go.Operand.tmp 17) (Go.Operand.const (Go.Value.int Go.IntKind.i64 1)) k_3 (Go.Value.int Go.IntKind.i64 1)) w17 fun t18 w18 =>
      k2 t18 w18))))
    [(Go.Value.int Go.IntKind.i64 0)] w)
  (fun (k_3 : Value) (w19 : World) => 
  JoinP 2 (fun (k11 : N2) =>
    LoopP 2 (fun (k12 : N2) => (fun (gs_5 : Value) (k_6 : Value) (w20 : World) => 
      Run Try.prog (Builtin.len_ #[50] 3 #[ls_0]) w20 fun t40 w21 =>
      Run Try.prog (binSem Go.BinOp.lss 3 (Go.Operand.tmp 38) (Go.Operand.tmp 40) k_6 t40) w21 fun t41 w22 =>
      CondP t41 0 (fun (k13 : N0) =>
        k13 w22)
      (fun (k14 : N0) =>
        k11 gs_5 k_6 w22)
      (fun (w23 : World) => 
      JoinP 1 (fun (k15 : N1) =>
        Run Try.prog (Instr.indexAt 50 ls_0 k_6) w23 fun t46 w24 =>
        Run Try.prog (Instr.loadAt 30 t46) w24 fun t47 w25 =>
        JoinP 2 (fun (k16 : N2) =>
          LoopP 2 (fun (k17 : N2) => (fun (g_7 : Value) (i_8 : Value) (w26 : World) => 
            Run Try.prog (binSem Go.BinOp.lss 3 (Go.Operand.tmp 48) (Go.Operand.const (Go.Value.int Go.IntKind.i64 64)) i_8 (Go.Value.int Go.IntKind.i64 64)) w26 fun t49 w27 =>
            CondP t49 0 (fun (k18 : N0) =>
              k18 w27)
            (fun (k19 : N0) =>
              k16 g_7 i_8 w27)
            (fun (w28 : World) => 
            JoinP 1 (fun (k20 : N1) =>
              Run Try.prog (Instr.indexAt 50 ls_0 k_6) w28 fun t54 w29 =>
              Run Try.prog (Instr.loadAt 30 t54) w29 fun t55 w30 =>
              Run Try.prog (Builtin.len_ #[30] 3 #[t55]) w30 fun t56 w31 =>
              Run Try.prog (binSem Go.BinOp.add 3 (Go.Operand.tmp 56) (Go.Operand.tmp 57) t56 i_8) w31 fun t58 w32 =>
              GoN Try.prog (callFunc 71 #[k_6, t58]) w32 fun t62 w33 =>
              Run Try.prog (Instr.build 79 #[(3, t62)]) w33 fun t63 w34 =>
              Run Try.prog (Instr.buildSlice 30 1 #[(0, t63)]) w34 fun t64 w35 =>
              Run Try.prog (Builtin.append_ #[30, 30] 30 #[g_7, t64]) w35 fun t65 w36 =>
              k20 t65 w36)
            (fun (g_7 : Value) (w37 : World) => 
            Run Try.prog (binSem Go.BinOp.add 3 (Go.Operand.tmp 50) (Go.Operand.const (Go.Value.int Go.IntKind.i64 1)) i_8 (Go.Value.int Go.IntKind.i64 1)) w37 fun t51 w38 =>
            k17 g_7 t51 w38))))
          [t47, (Go.Value.int Go.IntKind.i64 0)] w25)
        (fun (g_7 : Value) (i_8 : Value) (w39 : World) => 
        Run Try.prog (Instr.buildSlice 50 1 #[(0, g_7)]) w39 fun t68 w40 =>
        Run Try.prog (Builtin.append_ #[50, 50] 50 #[gs_5, t68]) w40 fun t69 w41 =>
        k15 t69 w41))
      (fun (gs_5 : Value) (w42 : World) => 
      Run Try.prog (binSem Go.BinOp.add 3 (Go.Operand.tmp 42) (Go.Operand.const (Go.Value.int Go.IntKind.i64 1)) k_6 (Go.Value.int Go.IntKind.i64 1)) w42 fun t43 w43 =>
      k12 gs_5 t43 w43))))
    [(Go.Value.slice none 0 0), (Go.Value.int Go.IntKind.i64 0)] w19)
  (fun (gs_5 : Value) (k_6 : Value) (w44 : World) => 
  JoinP 2 (fun (k21 : N2) =>
    LoopP 2 (fun (k22 : N2) => (fun (t2 : Value) (k_10 : Value) (w45 : World) => 
      Run Try.prog (Builtin.len_ #[50] 3 #[ls_0]) w45 fun t72 w46 =>
      Run Try.prog (binSem Go.BinOp.lss 3 (Go.Operand.tmp 70) (Go.Operand.tmp 72) k_10 t72) w46 fun t73 w47 =>
      CondP t73 0 (fun (k23 : N0) =>
        k23 w47)
      (fun (k24 : N0) =>
        k21 t2 k_10 w47)
      (fun (w48 : World) => 
      JoinP 1 (fun (k25 : N1) =>
        JoinP 2 (fun (k26 : N2) =>
          LoopP 2 (fun (k27 : N2) => (fun (t2 : Value) (i_11 : Value) (w49 : World) => 
            Run Try.prog (Instr.indexAt 50 gs_5 k_10) w49 fun t79 w50 =>
            Run Try.prog (Instr.loadAt 30 t79) w50 fun t80 w51 =>
            Run Try.prog (Builtin.len_ #[30] 3 #[t80]) w51 fun t81 w52 =>
            Run Try.prog (binSem Go.BinOp.lss 3 (Go.Operand.tmp 76) (Go.Operand.tmp 81) i_11 t81) w52 fun t82 w53 =>
            CondP t82 0 (fun (k28 : N0) =>
              k28 w53)
            (fun (k29 : N0) =>
              k26 t2 i_11 w53)
            (fun (w54 : World) => 
            JoinP 1 (fun (k30 : N1) =>
              GoN Try.prog (callFunc 71 #[k_10, i_11]) w54 fun t87 w55 =>
              Run Try.prog (Instr.indexAt 50 gs_5 k_10) w55 fun t90 w56 =>
              Run Try.prog (Instr.loadAt 30 t90) w56 fun t91 w57 =>
              Run Try.prog (Instr.indexAt 30 t91 i_11) w57 fun t93 w58 =>
              Run Try.prog (Instr.fieldAt 79 t93 3) w58 fun t94 w59 =>
              Run Try.prog (Instr.loadAt 9 t94) w59 fun t95 w60 =>
              Run Try.prog (binSem Go.BinOp.neq 9 (Go.Operand.tmp 95) (Go.Operand.tmp 96) t95 t87) w60 fun t97 w61 =>
              GuardP t97 false (fun (k31 : N1) => k31 i_11 w61) w61 fun t99 w62 =>
              GuardP t97 false (fun (k32 : N1) => k32 ls_0 w62) w62 fun t100 w63 =>
              GuardP t97 false (fun (k33 : N1) => k33 k_10 w63) w63 fun t101 w64 =>
              GuardP t97 false (fun (k34 : N1) => Run Try.prog (Instr.indexAt 50 t100 t101) w64 k34) w64 fun t102 w65 =>
              GuardP t97 false (fun (k35 : N1) => Run Try.prog (Instr.loadAt 30 t102) w65 k35) w65 fun t103 w66 =>
              GuardP t97 false (fun (k36 : N1) => Run Try.prog (Builtin.len_ #[30] 3 #[t103]) w66 k36) w66 fun t104 w67 =>
              GuardP t97 false (fun (k37 : N1) => Run Try.prog (binSem Go.BinOp.lss 3 (Go.Operand.tmp 99) (Go.Operand.tmp 104) t99 t104) w67 k37) w67 fun t105 w68 =>
              GuardP t97 false (fun (k38 : N1) => k38 t105 w68) w68 fun t106 w69 =>
              GuardP t106 true (fun (k39 : N1) => k39 ls_0 w69) w69 fun t107 w70 =>
              GuardP t106 true (fun (k40 : N1) => k40 k_10 w70) w70 fun t108 w71 =>
              GuardP t106 true (fun (k41 : N1) => Run Try.prog (Instr.indexAt 50 t107 t108) w71 k41) w71 fun t109 w72 =>
              GuardP t106 true (fun (k42 : N1) => Run Try.prog (Instr.loadAt 30 t109) w72 k42) w72 fun t110 w73 =>
              GuardP t106 true (fun (k43 : N1) => k43 i_11 w73) w73 fun t111 w74 =>
              GuardP t106 true (fun (k44 : N1) => Run Try.prog (Instr.indexAt 30 t110 t111) w74 k44) w74 fun t112 w75 =>
              GuardP t106 true (fun (k45 : N1) => Run Try.prog (Instr.fieldAt 79 t112 3) w75 k45) w75 fun t113 w76 =>
              GuardP t106 true (fun (k46 : N1) => Run Try.prog (Instr.loadAt 9 t113) w76 k46) w76 fun t114 w77 =>
              GuardP t106 true (fun (k47 : N1) => k47 t87 w77) w77 fun t115 w78 =>
              GuardP t106 true (fun (k48 : N1) => Run Try.prog (binSem Go.BinOp.neq 9 (Go.Operand.tmp 114) (Go.Operand.tmp 115) t114 t115) w78 k48) w78 fun t116 w79 =>
              GuardP t97 false (fun (k49 : N1) => PickP t106 t116 (Go.Value.bool false) w79 k49) w79 fun t117 w80 =>
              PickP t97 (Go.Value.bool true) t117 w80 fun t118 w81 =>
              CondP t118 1 (fun (k50 : N1) =>
                R (Go.Value.bool false) w81)
              (fun (k51 : N1) =>
                k51 t2 w81)
              (fun (t2 : Value) (w82 : World) => 
              k30 t2 w82))
            (fun (t2 : Value) (w83 : World) => 
            Run Try.prog (binSem Go.BinOp.add 3 (Go.Operand.tmp 83) (Go.Operand.const (Go.Value.int Go.IntKind.i64 1)) i_11 (Go.Value.int Go.IntKind.i64 1)) w83 fun t84 w84 =>
            k27 t2 t84 w84))))
          [t2, (Go.Value.int Go.IntKind.i64 0)] w48)
        (fun (t2 : Value) (i_11 : Value) (w85 : World) => 
        k25 t2 w85))
      (fun (t2 : Value) (w86 : World) => 
      Run Try.prog (binSem Go.BinOp.add 3 (Go.Operand.tmp 74) (Go.Operand.const (Go.Value.int Go.IntKind.i64 1)) k_10 (Go.Value.int Go.IntKind.i64 1)) w86 fun t75 w87 =>
      k22 t2 t75 w87))))
    [(Go.Value.bool false), (Go.Value.int Go.IntKind.i64 0)] w44)
  (fun (t2 : Value) (k_10 : Value) (w88 : World) => 
  R (Go.Value.bool true) w88)))
theorem S43_eq (ls_0 : Value) (w : World) (R : Value → World → Prop) : vcFn Try.prog Try.f43 [ls_0] w R = S43 ls_0 w R := by kernel_rfl
theorem D43 {ls_0 : Value} {w : World} {R : Value → World → Prop} (h : S43 ls_0 w R) : Does Try.prog 43 [ls_0] w R :=
  does_of_vc mixed Try.func43 (by kernel_rfl) (by kernel_rfl) ((S43_eq ls_0 w R).mpr h)

/-- busbar/busbarkit.apartFrames -/
def S44 (ls_0 : Value) (w : World) (R : Value → World → Prop) : Prop :=
  JoinP 1 (fun (k1 : N1) =>
    LoopP 1 (fun (k2 : N1) => (fun (k_3 : Value) (w1 : World) => 
      Run Try.prog (Builtin.len_ #[51] 3 #[ls_0]) w1 fun t15 w2 =>
      Run Try.prog (binSem Go.BinOp.lss 3 (Go.Operand.tmp 13) (Go.Operand.tmp 15) k_3 t15) w2 fun t16 w3 =>
      CondP t16 0 (fun (k3 : N0) =>
        k3 w3)
      (fun (k4 : N0) =>
        k1 k_3 w3)
      (fun (w4 : World) => 
      JoinP 0 (fun (k5 : N0) =>
        JoinP 1 (fun (k6 : N1) =>
          LoopP 1 (fun (k7 : N1) => (fun (i_4 : Value) (w5 : World) => 
            Run Try.prog (Instr.indexAt 51 ls_0 k_3) w5 fun t22 w6 =>
            Run Try.prog (Instr.loadAt 151 t22) w6 fun t23 w7 =>
            Run Try.prog (Builtin.len_ #[151] 3 #[t23]) w7 fun t24 w8 =>
            Run Try.prog (binSem Go.BinOp.lss 3 (Go.Operand.tmp 19) (Go.Operand.tmp 24) i_4 t24) w8 fun t25 w9 =>
            CondP t25 0 (fun (k8 : N0) =>
              k8 w9)
            (fun (k9 : N0) =>
              k6 i_4 w9)
            (fun (w10 : World) => 
            JoinP 0 (fun (k10 : N0) =>
              Run Try.prog (Instr.indexAt 51 ls_0 k_3) w10 fun t30 w11 =>
              Run Try.prog (Instr.loadAt 151 t30) w11 fun t31 w12 =>
              Run Try.prog (binSem Go.BinOp.add 3 (Go.Operand.tmp 33) (Go.Operand.const (Go.Value.int Go.IntKind.i64 1)) k_3 (Go.Value.int Go.IntKind.i64 1)) w12 fun t34 w13 =>
              Run Try.prog (binSem Go.BinOp.mul 3 (Go.Operand.const (Go.Value.int Go.IntKind.i64 1000000)) (Go.Operand.tmp 34) (Go.Value.int Go.IntKind.i64 1000000) t34) w13 fun t35 w14 =>
              Run Try.prog (binSem Go.BinOp.add 3 (Go.Operand.tmp 35) (Go.Operand.tmp 36) t35 i_4) w14 fun t37 w15 =>
              Run Try.prog (convert 3 59 t37) w15 fun t38 w16 =>
              Run Try.prog (Instr.build 153 #[(0, t38)]) w16 fun t39 w17 =>
              Run Try.prog (Instr.indexAt 151 t31 i_4) w17 fun t40 w18 =>
              RunU Try.prog (Instr.storeAt 153 t40 t39) w18 fun w19 =>
              k10 w19)
            (fun (w20 : World) => 
            Run Try.prog (binSem Go.BinOp.add 3 (Go.Operand.tmp 26) (Go.Operand.const (Go.Value.int Go.IntKind.i64 1)) i_4 (Go.Value.int Go.IntKind.i64 1)) w20 fun t27 w21 =>
            k7 t27 w21))))
          [(Go.Value.int Go.IntKind.i64 0)] w4)
        (fun (i_4 : Value) (w22 : World) => 
        k5 w22))
      (fun (w23 : World) => 
      Run Try.prog (binSem Go.BinOp.add 3 (Go.Operand.tmp 17) (Go.Operand.const (Go.Value.int Go.IntKind.i64 1)) k_3 (Go.Value.int Go.IntKind.i64 1)) w23 fun t18 w24 =>
      k2 t18 w24))))
    [(Go.Value.int Go.IntKind.i64 0)] w)
  (fun (k_3 : Value) (w25 : World) => 
  JoinP 2 (fun (k11 : N2) =>
    LoopP 2 (fun (k12 : N2) => (fun (gs_5 : Value) (k_6 : Value) (w26 : World) => 
      Run Try.prog (Builtin.len_ #[51] 3 #[ls_0]) w26 fun t43 w27 =>
      Run Try.prog (binSem Go.BinOp.lss 3 (Go.Operand.tmp 41) (Go.Operand.tmp 43) k_6 t43) w27 fun t44 w28 =>
      CondP t44 0 (fun (k13 : N0) =>
        k13 w28)
      (fun (k14 : N0) =>
        k11 gs_5 k_6 w28)
      (fun (w29 : World) => 
      JoinP 1 (fun (k15 : N1) =>
        Run Try.prog (Instr.indexAt 51 ls_0 k_6) w29 fun t49 w30 =>
        Run Try.prog (Instr.loadAt 151 t49) w30 fun t50 w31 =>
        JoinP 2 (fun (k16 : N2) =>
          LoopP 2 (fun (k17 : N2) => (fun (g_7 : Value) (i_8 : Value) (w32 : World) => 
            Run Try.prog (binSem Go.BinOp.lss 3 (Go.Operand.tmp 51) (Go.Operand.const (Go.Value.int Go.IntKind.i64 64)) i_8 (Go.Value.int Go.IntKind.i64 64)) w32 fun t52 w33 =>
            CondP t52 0 (fun (k18 : N0) =>
              k18 w33)
            (fun (k19 : N0) =>
              k16 g_7 i_8 w33)
            (fun (w34 : World) => 
            JoinP 1 (fun (k20 : N1) =>
              Run Try.prog (Instr.indexAt 51 ls_0 k_6) w34 fun t57 w35 =>
              Run Try.prog (Instr.loadAt 151 t57) w35 fun t58 w36 =>
              Run Try.prog (Builtin.len_ #[151] 3 #[t58]) w36 fun t59 w37 =>
              Run Try.prog (binSem Go.BinOp.add 3 (Go.Operand.tmp 59) (Go.Operand.tmp 60) t59 i_8) w37 fun t61 w38 =>
              Run Try.prog (binSem Go.BinOp.add 3 (Go.Operand.tmp 63) (Go.Operand.const (Go.Value.int Go.IntKind.i64 1)) k_6 (Go.Value.int Go.IntKind.i64 1)) w38 fun t64 w39 =>
              Run Try.prog (binSem Go.BinOp.mul 3 (Go.Operand.const (Go.Value.int Go.IntKind.i64 1000000)) (Go.Operand.tmp 64) (Go.Value.int Go.IntKind.i64 1000000) t64) w39 fun t65 w40 =>
              Run Try.prog (binSem Go.BinOp.add 3 (Go.Operand.tmp 65) (Go.Operand.tmp 66) t65 t61) w40 fun t67 w41 =>
              Run Try.prog (convert 3 59 t67) w41 fun t68 w42 =>
              Run Try.prog (Instr.build 153 #[(0, t68)]) w42 fun t69 w43 =>
              Run Try.prog (Instr.buildSlice 151 1 #[(0, t69)]) w43 fun t70 w44 =>
              Run Try.prog (Builtin.append_ #[151, 151] 151 #[g_7, t70]) w44 fun t71 w45 =>
              k20 t71 w45)
            (fun (g_7 : Value) (w46 : World) => 
            Run Try.prog (binSem Go.BinOp.add 3 (Go.Operand.tmp 53) (Go.Operand.const (Go.Value.int Go.IntKind.i64 1)) i_8 (Go.Value.int Go.IntKind.i64 1)) w46 fun t54 w47 =>
            k17 g_7 t54 w47))))
          [t50, (Go.Value.int Go.IntKind.i64 0)] w31)
        (fun (g_7 : Value) (i_8 : Value) (w48 : World) => 
        Run Try.prog (Instr.buildSlice 51 1 #[(0, g_7)]) w48 fun t74 w49 =>
        Run Try.prog (Builtin.append_ #[51, 51] 51 #[gs_5, t74]) w49 fun t75 w50 =>
        k15 t75 w50))
      (fun (gs_5 : Value) (w51 : World) => 
      Run Try.prog (binSem Go.BinOp.add 3 (Go.Operand.tmp 45) (Go.Operand.const (Go.Value.int Go.IntKind.i64 1)) k_6 (Go.Value.int Go.IntKind.i64 1)) w51 fun t46 w52 =>
      k12 gs_5 t46 w52))))
    [(Go.Value.slice none 0 0), (Go.Value.int Go.IntKind.i64 0)] w25)
  (fun (gs_5 : Value) (k_6 : Value) (w53 : World) => 
  JoinP 2 (fun (k21 : N2) =>
    LoopP 2 (fun (k22 : N2) => (fun (t2 : Value) (k_10 : Value) (w54 : World) => 
      Run Try.prog (Builtin.len_ #[51] 3 #[ls_0]) w54 fun t78 w55 =>
      Run Try.prog (binSem Go.BinOp.lss 3 (Go.Operand.tmp 76) (Go.Operand.tmp 78) k_10 t78) w55 fun t79 w56 =>
      CondP t79 0 (fun (k23 : N0) =>
        k23 w56)
      (fun (k24 : N0) =>
        k21 t2 k_10 w56)
      (fun (w57 : World) => 
      JoinP 1 (fun (k25 : N1) =>
        JoinP 2 (fun (k26 : N2) =>
          LoopP 2 (fun (k27 : N2) => (fun (t2 : Value) (i_11 : Value) (w58 : World) => 
            Run Try.prog (Instr.indexAt 51 gs_5 k_10) w58 fun t85 w59 =>
            Run Try.prog (Instr.loadAt 151 t85) w59 fun t86 w60 =>
            Run Try.prog (Builtin.len_ #[151] 3 #[t86]) w60 fun t87 w61 =>
            Run Try.prog (binSem Go.BinOp.lss 3 (Go.Operand.tmp 82) (Go.Operand.tmp 87) i_11 t87) w61 fun t88 w62 =>
            CondP t88 0 (fun (k28 : N0) =>
              k28 w62)
            (fun (k29 : N0) =>
              k26 t2 i_11 w62)
            (fun (w63 : World) => 
            JoinP 1 (fun (k30 : N1) =>
              Run Try.prog (binSem Go.BinOp.add 3 (Go.Operand.tmp 91) (Go.Operand.const (Go.Value.int Go.IntKind.i64 1)) k_10 (Go.Value.int Go.IntKind.i64 1)) w63 fun t92 w64 =>
              Run Try.prog (binSem Go.BinOp.mul 3 (Go.Operand.const (Go.Value.int Go.IntKind.i64 1000000)) (Go.Operand.tmp 92) (Go.Value.int Go.IntKind.i64 1000000) t92) w64 fun t93 w65 =>
              Run Try.prog (binSem Go.BinOp.add 3 (Go.Operand.tmp 93) (Go.Operand.tmp 94) t93 i_11) w65 fun t95 w66 =>
              Run Try.prog (convert 3 59 t95) w66 fun t96 w67 =>
              Run Try.prog (Instr.indexAt 51 gs_5 k_10) w67 fun t99 w68 =>
              Run Try.prog (Instr.loadAt 151 t99) w68 fun t100 w69 =>
              Run Try.prog (Instr.indexAt 151 t100 i_11) w69 fun t102 w70 =>
              Run Try.prog (Instr.fieldAt 153 t102 0) w70 fun t103 w71 =>
              Run Try.prog (Instr.loadAt 59 t103) w71 fun t104 w72 =>
              Run Try.prog (binSem Go.BinOp.neq 59 (Go.Operand.tmp 104) (Go.Operand.tmp 105) t104 t96) w72 fun t106 w73 =>
              GuardP t106 false (fun (k31 : N1) => k31 i_11 w73) w73 fun t108 w74 =>
              GuardP t106 false (fun (k32 : N1) => k32 ls_0 w74) w74 fun t109 w75 =>
              GuardP t106 false (fun (k33 : N1) => k33 k_10 w75) w75 fun t110 w76 =>
              GuardP t106 false (fun (k34 : N1) => Run Try.prog (Instr.indexAt 51 t109 t110) w76 k34) w76 fun t111 w77 =>
              GuardP t106 false (fun (k35 : N1) => Run Try.prog (Instr.loadAt 151 t111) w77 k35) w77 fun t112 w78 =>
              GuardP t106 false (fun (k36 : N1) => Run Try.prog (Builtin.len_ #[151] 3 #[t112]) w78 k36) w78 fun t113 w79 =>
              GuardP t106 false (fun (k37 : N1) => Run Try.prog (binSem Go.BinOp.lss 3 (Go.Operand.tmp 108) (Go.Operand.tmp 113) t108 t113) w79 k37) w79 fun t114 w80 =>
              GuardP t106 false (fun (k38 : N1) => k38 t114 w80) w80 fun t115 w81 =>
              GuardP t115 true (fun (k39 : N1) => k39 ls_0 w81) w81 fun t116 w82 =>
              GuardP t115 true (fun (k40 : N1) => k40 k_10 w82) w82 fun t117 w83 =>
              GuardP t115 true (fun (k41 : N1) => Run Try.prog (Instr.indexAt 51 t116 t117) w83 k41) w83 fun t118 w84 =>
              GuardP t115 true (fun (k42 : N1) => Run Try.prog (Instr.loadAt 151 t118) w84 k42) w84 fun t119 w85 =>
              GuardP t115 true (fun (k43 : N1) => k43 i_11 w85) w85 fun t120 w86 =>
              GuardP t115 true (fun (k44 : N1) => Run Try.prog (Instr.indexAt 151 t119 t120) w86 k44) w86 fun t121 w87 =>
              GuardP t115 true (fun (k45 : N1) => Run Try.prog (Instr.fieldAt 153 t121 0) w87 k45) w87 fun t122 w88 =>
              GuardP t115 true (fun (k46 : N1) => Run Try.prog (Instr.loadAt 59 t122) w88 k46) w88 fun t123 w89 =>
              GuardP t115 true (fun (k47 : N1) => k47 t96 w89) w89 fun t124 w90 =>
              GuardP t115 true (fun (k48 : N1) => Run Try.prog (binSem Go.BinOp.neq 59 (Go.Operand.tmp 123) (Go.Operand.tmp 124) t123 t124) w90 k48) w90 fun t125 w91 =>
              GuardP t106 false (fun (k49 : N1) => PickP t115 t125 (Go.Value.bool false) w91 k49) w91 fun t126 w92 =>
              PickP t106 (Go.Value.bool true) t126 w92 fun t127 w93 =>
              CondP t127 1 (fun (k50 : N1) =>
                R (Go.Value.bool false) w93)
              (fun (k51 : N1) =>
                k51 t2 w93)
              (fun (t2 : Value) (w94 : World) => 
              k30 t2 w94))
            (fun (t2 : Value) (w95 : World) => 
            Run Try.prog (binSem Go.BinOp.add 3 (Go.Operand.tmp 89) (Go.Operand.const (Go.Value.int Go.IntKind.i64 1)) i_11 (Go.Value.int Go.IntKind.i64 1)) w95 fun t90 w96 =>
            k27 t2 t90 w96))))
          [t2, (Go.Value.int Go.IntKind.i64 0)] w57)
        (fun (t2 : Value) (i_11 : Value) (w97 : World) => 
        k25 t2 w97))
      (fun (t2 : Value) (w98 : World) => 
      Run Try.prog (binSem Go.BinOp.add 3 (Go.Operand.tmp 80) (Go.Operand.const (Go.Value.int Go.IntKind.i64 1)) k_10 (Go.Value.int Go.IntKind.i64 1)) w98 fun t81 w99 =>
      k22 t2 t81 w99))))
    [(Go.Value.bool false), (Go.Value.int Go.IntKind.i64 0)] w53)
  (fun (t2 : Value) (k_10 : Value) (w100 : World) => 
  R (Go.Value.bool true) w100)))
theorem S44_eq (ls_0 : Value) (w : World) (R : Value → World → Prop) : vcFn Try.prog Try.f44 [ls_0] w R = S44 ls_0 w R := by kernel_rfl
theorem D44 {ls_0 : Value} {w : World} {R : Value → World → Prop} (h : S44 ls_0 w R) : Does Try.prog 44 [ls_0] w R :=
  does_of_vc mixed Try.func44 (by kernel_rfl) (by kernel_rfl) ((S44_eq ls_0 w R).mpr h)

/-- busbar/busbarkit.apartLines -/
def S45 (ls_0 : Value) (w : World) (R : Value → World → Prop) : Prop :=
  JoinP 1 (fun (k1 : N1) =>
    LoopP 1 (fun (k2 : N1) => (fun (k_3 : Value) (w1 : World) => 
      Run Try.prog (Builtin.len_ #[52] 3 #[ls_0]) w1 fun t15 w2 =>
      Run Try.prog (binSem Go.BinOp.lss 3 (Go.Operand.tmp 13) (Go.Operand.tmp 15) k_3 t15) w2 fun t16 w3 =>
      CondP t16 0 (fun (k3 : N0) =>
        k3 w3)
      (fun (k4 : N0) =>
        k1 k_3 w3)
      (fun (w4 : World) => 
      JoinP 0 (fun (k5 : N0) =>
        JoinP 1 (fun (k6 : N1) =>
          LoopP 1 (fun (k7 : N1) => (fun (i_4 : Value) (w5 : World) => 
            Run Try.prog (Instr.indexAt 52 ls_0 k_3) w5 fun t22 w6 =>
            Run Try.prog (Instr.loadAt 154 t22) w6 fun t23 w7 =>
            Run Try.prog (Builtin.len_ #[154] 3 #[t23]) w7 fun t24 w8 =>
            Run Try.prog (binSem Go.BinOp.lss 3 (Go.Operand.tmp 19) (Go.Operand.tmp 24) i_4 t24) w8 fun t25 w9 =>
            CondP t25 0 (fun (k8 : N0) =>
              k8 w9)
            (fun (k9 : N0) =>
              k6 i_4 w9)
            (fun (w10 : World) => 
            JoinP 0 (fun (k10 : N0) =>
              Run Try.prog (Instr.indexAt 52 ls_0 k_3) w10 fun t30 w11 =>
              Run Try.prog (Instr.loadAt 154 t30) w11 fun t31 w12 =>
              Run Try.prog (binSem Go.BinOp.add 3 (Go.Operand.tmp 33) (Go.Operand.const (Go.Value.int Go.IntKind.i64 1)) k_3 (Go.Value.int Go.IntKind.i64 1)) w12 fun t34 w13 =>
              Run Try.prog (binSem Go.BinOp.mul 3 (Go.Operand.const (Go.Value.int Go.IntKind.i64 1000000)) (Go.Operand.tmp 34) (Go.Value.int Go.IntKind.i64 1000000) t34) w13 fun t35 w14 =>
              Run Try.prog (binSem Go.BinOp.add 3 (Go.Operand.tmp 35) (Go.Operand.tmp 36) t35 i_4) w14 fun t37 w15 =>
              Run Try.prog (convert 3 115 t37) w15 fun t38 w16 =>
              Run Try.prog (Instr.build 156 #[(0, t38)]) w16 fun t39 w17 =>
              Run Try.prog (Instr.indexAt 154 t31 i_4) w17 fun t40 w18 =>
              RunU Try.prog (Instr.storeAt 156 t40 t39) w18 fun w19 =>
              k10 w19)
            (fun (w20 : World) => 
            Run Try.prog (binSem Go.BinOp.add 3 (Go.Operand.tmp 26) (Go.Operand.const (Go.Value.int Go.IntKind.i64 1)) i_4 (Go.Value.int Go.IntKind.i64 1)) w20 fun t27 w21 =>
            k7 t27 w21))))
          [(Go.Value.int Go.IntKind.i64 0)] w4)
        (fun (i_4 : Value) (w22 : World) => 
        k5 w22))
      (fun (w23 : World) => 
      Run Try.prog (binSem Go.BinOp.add 3 (Go.Operand.tmp 17) (Go.Operand.const (Go.Value.int Go.IntKind.i64 1)) k_3 (Go.Value.int Go.IntKind.i64 1)) w23 fun t18 w24 =>
      k2 t18 w24))))
    [(Go.Value.int Go.IntKind.i64 0)] w)
  (fun (k_3 : Value) (w25 : World) => 
  JoinP 2 (fun (k11 : N2) =>
    LoopP 2 (fun (k12 : N2) => (fun (gs_5 : Value) (k_6 : Value) (w26 : World) => 
      Run Try.prog (Builtin.len_ #[52] 3 #[ls_0]) w26 fun t43 w27 =>
      Run Try.prog (binSem Go.BinOp.lss 3 (Go.Operand.tmp 41) (Go.Operand.tmp 43) k_6 t43) w27 fun t44 w28 =>
      CondP t44 0 (fun (k13 : N0) =>
        k13 w28)
      (fun (k14 : N0) =>
        k11 gs_5 k_6 w28)
      (fun (w29 : World) => 
      JoinP 1 (fun (k15 : N1) =>
        Run Try.prog (Instr.indexAt 52 ls_0 k_6) w29 fun t49 w30 =>
        Run Try.prog (Instr.loadAt 154 t49) w30 fun t50 w31 =>
        JoinP 2 (fun (k16 : N2) =>
          LoopP 2 (fun (k17 : N2) => (fun (g_7 : Value) (i_8 : Value) (w32 : World) => 
            Run Try.prog (binSem Go.BinOp.lss 3 (Go.Operand.tmp 51) (Go.Operand.const (Go.Value.int Go.IntKind.i64 64)) i_8 (Go.Value.int Go.IntKind.i64 64)) w32 fun t52 w33 =>
            CondP t52 0 (fun (k18 : N0) =>
              k18 w33)
            (fun (k19 : N0) =>
              k16 g_7 i_8 w33)
            (fun (w34 : World) => 
            JoinP 1 (fun (k20 : N1) =>
              Run Try.prog (Instr.indexAt 52 ls_0 k_6) w34 fun t57 w35 =>
              Run Try.prog (Instr.loadAt 154 t57) w35 fun t58 w36 =>
              Run Try.prog (Builtin.len_ #[154] 3 #[t58]) w36 fun t59 w37 =>
              Run Try.prog (binSem Go.BinOp.add 3 (Go.Operand.tmp 59) (Go.Operand.tmp 60) t59 i_8) w37 fun t61 w38 =>
              Run Try.prog (binSem Go.BinOp.add 3 (Go.Operand.tmp 63) (Go.Operand.const (Go.Value.int Go.IntKind.i64 1)) k_6 (Go.Value.int Go.IntKind.i64 1)) w38 fun t64 w39 =>
              Run Try.prog (binSem Go.BinOp.mul 3 (Go.Operand.const (Go.Value.int Go.IntKind.i64 1000000)) (Go.Operand.tmp 64) (Go.Value.int Go.IntKind.i64 1000000) t64) w39 fun t65 w40 =>
              Run Try.prog (binSem Go.BinOp.add 3 (Go.Operand.tmp 65) (Go.Operand.tmp 66) t65 t61) w40 fun t67 w41 =>
              Run Try.prog (convert 3 115 t67) w41 fun t68 w42 =>
              Run Try.prog (Instr.build 156 #[(0, t68)]) w42 fun t69 w43 =>
              Run Try.prog (Instr.buildSlice 154 1 #[(0, t69)]) w43 fun t70 w44 =>
              Run Try.prog (Builtin.append_ #[154, 154] 154 #[g_7, t70]) w44 fun t71 w45 =>
              k20 t71 w45)
            (fun (g_7 : Value) (w46 : World) => 
            Run Try.prog (binSem Go.BinOp.add 3 (Go.Operand.tmp 53) (Go.Operand.const (Go.Value.int Go.IntKind.i64 1)) i_8 (Go.Value.int Go.IntKind.i64 1)) w46 fun t54 w47 =>
            k17 g_7 t54 w47))))
          [t50, (Go.Value.int Go.IntKind.i64 0)] w31)
        (fun (g_7 : Value) (i_8 : Value) (w48 : World) => 
        Run Try.prog (Instr.buildSlice 52 1 #[(0, g_7)]) w48 fun t74 w49 =>
        Run Try.prog (Builtin.append_ #[52, 52] 52 #[gs_5, t74]) w49 fun t75 w50 =>
        k15 t75 w50))
      (fun (gs_5 : Value) (w51 : World) => 
      Run Try.prog (binSem Go.BinOp.add 3 (Go.Operand.tmp 45) (Go.Operand.const (Go.Value.int Go.IntKind.i64 1)) k_6 (Go.Value.int Go.IntKind.i64 1)) w51 fun t46 w52 =>
      k12 gs_5 t46 w52))))
    [(Go.Value.slice none 0 0), (Go.Value.int Go.IntKind.i64 0)] w25)
  (fun (gs_5 : Value) (k_6 : Value) (w53 : World) => 
  JoinP 2 (fun (k21 : N2) =>
    LoopP 2 (fun (k22 : N2) => (fun (t2 : Value) (k_10 : Value) (w54 : World) => 
      Run Try.prog (Builtin.len_ #[52] 3 #[ls_0]) w54 fun t78 w55 =>
      Run Try.prog (binSem Go.BinOp.lss 3 (Go.Operand.tmp 76) (Go.Operand.tmp 78) k_10 t78) w55 fun t79 w56 =>
      CondP t79 0 (fun (k23 : N0) =>
        k23 w56)
      (fun (k24 : N0) =>
        k21 t2 k_10 w56)
      (fun (w57 : World) => 
      JoinP 1 (fun (k25 : N1) =>
        JoinP 2 (fun (k26 : N2) =>
          LoopP 2 (fun (k27 : N2) => (fun (t2 : Value) (i_11 : Value) (w58 : World) => 
            Run Try.prog (Instr.indexAt 52 gs_5 k_10) w58 fun t85 w59 =>
            Run Try.prog (Instr.loadAt 154 t85) w59 fun t86 w60 =>
            Run Try.prog (Builtin.len_ #[154] 3 #[t86]) w60 fun t87 w61 =>
            Run Try.prog (binSem Go.BinOp.lss 3 (Go.Operand.tmp 82) (Go.Operand.tmp 87) i_11 t87) w61 fun t88 w62 =>
            CondP t88 0 (fun (k28 : N0) =>
              k28 w62)
            (fun (k29 : N0) =>
              k26 t2 i_11 w62)
            (fun (w63 : World) => 
            JoinP 1 (fun (k30 : N1) =>
              Run Try.prog (binSem Go.BinOp.add 3 (Go.Operand.tmp 91) (Go.Operand.const (Go.Value.int Go.IntKind.i64 1)) k_10 (Go.Value.int Go.IntKind.i64 1)) w63 fun t92 w64 =>
              Run Try.prog (binSem Go.BinOp.mul 3 (Go.Operand.const (Go.Value.int Go.IntKind.i64 1000000)) (Go.Operand.tmp 92) (Go.Value.int Go.IntKind.i64 1000000) t92) w64 fun t93 w65 =>
              Run Try.prog (binSem Go.BinOp.add 3 (Go.Operand.tmp 93) (Go.Operand.tmp 94) t93 i_11) w65 fun t95 w66 =>
              Run Try.prog (convert 3 115 t95) w66 fun t96 w67 =>
              Run Try.prog (Instr.indexAt 52 gs_5 k_10) w67 fun t99 w68 =>
              Run Try.prog (Instr.loadAt 154 t99) w68 fun t100 w69 =>
              Run Try.prog (Instr.indexAt 154 t100 i_11) w69 fun t102 w70 =>
              Run Try.prog (Instr.fieldAt 156 t102 0) w70 fun t103 w71 =>
              Run Try.prog (Instr.loadAt 115 t103) w71 fun t104 w72 =>
              Run Try.prog (binSem Go.BinOp.neq 115 (Go.Operand.tmp 104) (Go.Operand.tmp 105) t104 t96) w72 fun t106 w73 =>
              GuardP t106 false (fun (k31 : N1) => k31 i_11 w73) w73 fun t108 w74 =>
              GuardP t106 false (fun (k32 : N1) => k32 ls_0 w74) w74 fun t109 w75 =>
              GuardP t106 false (fun (k33 : N1) => k33 k_10 w75) w75 fun t110 w76 =>
              GuardP t106 false (fun (k34 : N1) => Run Try.prog (Instr.indexAt 52 t109 t110) w76 k34) w76 fun t111 w77 =>
              GuardP t106 false (fun (k35 : N1) => Run Try.prog (Instr.loadAt 154 t111) w77 k35) w77 fun t112 w78 =>
              GuardP t106 false (fun (k36 : N1) => Run Try.prog (Builtin.len_ #[154] 3 #[t112]) w78 k36) w78 fun t113 w79 =>
              GuardP t106 false (fun (k37 : N1) => Run Try.prog (binSem Go.BinOp.lss 3 (Go.Operand.tmp 108) (Go.Operand.tmp 113) t108 t113) w79 k37) w79 fun t114 w80 =>
              GuardP t106 false (fun (k38 : N1) => k38 t114 w80) w80 fun t115 w81 =>
              GuardP t115 true (fun (k39 : N1) => k39 ls_0 w81) w81 fun t116 w82 =>
              GuardP t115 true (fun (k40 : N1) => k40 k_10 w82) w82 fun t117 w83 =>
              GuardP t115 true (fun (k41 : N1) => Run Try.prog (Instr.indexAt 52 t116 t117) w83 k41) w83 fun t118 w84 =>
              GuardP t115 true (fun (k42 : N1) => Run Try.prog (Instr.loadAt 154 t118) w84 k42) w84 fun t119 w85 =>
              GuardP t115 true (fun (k43 : N1) => k43 i_11 w85) w85 fun t120 w86 =>
              GuardP t115 true (fun (k44 : N1) => Run Try.prog (Instr.indexAt 154 t119 t120) w86 k44) w86 fun t121 w87 =>
              GuardP t115 true (fun (k45 : N1) => Run Try.prog (Instr.fieldAt 156 t121 0) w87 k45) w87 fun t122 w88 =>
              GuardP t115 true (fun (k46 : N1) => Run Try.prog (Instr.loadAt 115 t122) w88 k46) w88 fun t123 w89 =>
              GuardP t115 true (fun (k47 : N1) => k47 t96 w89) w89 fun t124 w90 =>
              GuardP t115 true (fun (k48 : N1) => Run Try.prog (binSem Go.BinOp.neq 115 (Go.Operand.tmp 123) (Go.Operand.tmp 124) t123 t124) w90 k48) w90 fun t125 w91 =>
              GuardP t106 false (fun (k49 : N1) => PickP t115 t125 (Go.Value.bool false) w91 k49) w91 fun t126 w92 =>
              PickP t106 (Go.Value.bool true) t126 w92 fun t127 w93 =>
              CondP t127 1 (fun (k50 : N1) =>
                R (Go.Value.bool false) w93)
              (fun (k51 : N1) =>
                k51 t2 w93)
              (fun (t2 : Value) (w94 : World) => 
              k30 t2 w94))
            (fun (t2 : Value) (w95 : World) => 
            Run Try.prog (binSem Go.BinOp.add 3 (Go.Operand.tmp 89) (Go.Operand.const (Go.Value.int Go.IntKind.i64 1)) i_11 (Go.Value.int Go.IntKind.i64 1)) w95 fun t90 w96 =>
            k27 t2 t90 w96))))
          [t2, (Go.Value.int Go.IntKind.i64 0)] w57)
        (fun (t2 : Value) (i_11 : Value) (w97 : World) => 
        k25 t2 w97))
      (fun (t2 : Value) (w98 : World) => 
      Run Try.prog (binSem Go.BinOp.add 3 (Go.Operand.tmp 80) (Go.Operand.const (Go.Value.int Go.IntKind.i64 1)) k_10 (Go.Value.int Go.IntKind.i64 1)) w98 fun t81 w99 =>
      k22 t2 t81 w99))))
    [(Go.Value.bool false), (Go.Value.int Go.IntKind.i64 0)] w53)
  (fun (t2 : Value) (k_10 : Value) (w100 : World) => 
  R (Go.Value.bool true) w100)))
theorem S45_eq (ls_0 : Value) (w : World) (R : Value → World → Prop) : vcFn Try.prog Try.f45 [ls_0] w R = S45 ls_0 w R := by kernel_rfl
theorem D45 {ls_0 : Value} {w : World} {R : Value → World → Prop} (h : S45 ls_0 w R) : Does Try.prog 45 [ls_0] w R :=
  does_of_vc mixed Try.func45 (by kernel_rfl) (by kernel_rfl) ((S45_eq ls_0 w R).mpr h)

end Go.Proofs.Ytmgleeoecdodjaa.Sh
