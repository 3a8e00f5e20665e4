/- The conditions of functions, printed by a program off the loaded code and held against it by the kernel. Conditions: none. -/
import Derived.Test.YtmgleeoecdodjaaV5
import Derived.Test.YtmgleeoecdodjaaProg
set_option linter.unusedVariables false
set_option maxRecDepth 100000
namespace Go.Proofs.Ytmgleeoecdodjaa.Sh
open Go Go.V
theorem mixed : Try.prog.follows .mixedOrders = true := by kernel_rfl
/-- busbar/busbarkit.KeptMessages -/
def S26 (out_0 l_1 : Value) (w : World) (R : Value → World → Prop) : Prop :=
  Run Try.prog (Builtin.len_ #[29] 3 #[l_1]) w fun t10 w1 =>
  Run Try.prog (Builtin.len_ #[29] 3 #[out_0]) w1 fun t12 w2 =>
  Run Try.prog (binSem Go.BinOp.neq 3 (Go.Operand.tmp 12) (Go.Operand.tmp 13) t12 t10) w2 fun t14 w3 =>
  CondP t14 1 (fun (k1 : N1) =>
    R (Go.Value.bool false) w3)
  (fun (k2 : N1) =>
    k2 (Go.Value.bool false) w3)
  (fun (t4 : Value) (w4 : World) => 
  Run Try.prog (binSem Go.BinOp.add 3 (Go.Operand.tmp 16) (Go.Operand.const (Go.Value.int Go.IntKind.i64 16)) t10 (Go.Value.int Go.IntKind.i64 16)) w4 fun t17 w5 =>
  Run Try.prog (Instr.sliceAt 29 out_0 none (some t17) none) w5 fun t18 w6 =>
  JoinP 2 (fun (k3 : N2) =>
    LoopP 2 (fun (k4 : N2) => (fun (t4 : Value) (i_7 : Value) (w7 : World) => 
      Run Try.prog (binSem Go.BinOp.lss 3 (Go.Operand.tmp 19) (Go.Operand.tmp 20) i_7 t10) w7 fun t21 w8 =>
      CondP t21 0 (fun (k5 : N0) =>
        k5 w8)
      (fun (k6 : N0) =>
        k3 t4 i_7 w8)
      (fun (w9 : World) => 
      JoinP 1 (fun (k7 : N1) =>
        ∀ w10, Ext w9 w10 →
        RunQ Try.prog (Instr.indexAt 29 t18 i_7) w10 fun t26 =>
        RunQ Try.prog (Instr.loadAt 62 t26) w10 fun t27 =>
        RunQ Try.prog (Instr.indexAt 29 l_1 i_7) w10 fun t30 =>
        RunQ Try.prog (Instr.loadAt 62 t30) w10 fun t31 =>
        GoN Try.prog (callFunc 57 #[t27, t31]) w10 fun t32 w11 => Ext w10 w11 ∧
        RunQ Try.prog (Op.unary Go.UnOp.not t32) w10 fun t33 =>
        CondP t33 1 (fun (k8 : N1) =>
          R (Go.Value.bool false) w11)
        (fun (k9 : N1) =>
          k9 t4 w11)
        (fun (t4 : Value) (w12 : World) => 
        k7 t4 w12))
      (fun (t4 : Value) (w13 : World) => 
      Run Try.prog (binSem Go.BinOp.add 3 (Go.Operand.tmp 22) (Go.Operand.const (Go.Value.int Go.IntKind.i64 1)) i_7 (Go.Value.int Go.IntKind.i64 1)) w13 fun t23 w14 =>
      k4 t4 t23 w14))))
    [t4, (Go.Value.int Go.IntKind.i64 0)] w6)
  (fun (t4 : Value) (i_7 : Value) (w15 : World) => 
  JoinP 2 (fun (k10 : N2) =>
    LoopP 2 (fun (k11 : N2) => (fun (t4 : Value) (i_8 : Value) (w16 : World) => 
      Run Try.prog (Builtin.len_ #[29] 3 #[t18]) w16 fun t37 w17 =>
      Run Try.prog (binSem Go.BinOp.lss 3 (Go.Operand.tmp 35) (Go.Operand.tmp 37) i_8 t37) w17 fun t38 w18 =>
      CondP t38 0 (fun (k12 : N0) =>
        k12 w18)
      (fun (k13 : N0) =>
        k10 t4 i_8 w18)
      (fun (w19 : World) => 
      JoinP 1 (fun (k14 : N1) =>
        Run Try.prog (Instr.indexAt 29 t18 i_8) w19 fun t43 w20 =>
        Run Try.prog (Instr.fieldAt 62 t43 4) w20 fun t44 w21 =>
        Run Try.prog (Instr.loadAt 3 t44) w21 fun t45 w22 =>
        Run Try.prog (binSem Go.BinOp.eql 3 (Go.Operand.tmp 45) (Go.Operand.const (Go.Value.int Go.IntKind.i64 (-7))) t45 (Go.Value.int Go.IntKind.i64 (-7))) w22 fun t46 w23 =>
        Run Try.prog (Op.unary Go.UnOp.not t46) w23 fun t47 w24 =>
        CondP t47 1 (fun (k15 : N1) =>
          R (Go.Value.bool false) w24)
        (fun (k16 : N1) =>
          k16 t4 w24)
        (fun (t4 : Value) (w25 : World) => 
        k14 t4 w25))
      (fun (t4 : Value) (w26 : World) => 
      Run Try.prog (binSem Go.BinOp.add 3 (Go.Operand.tmp 39) (Go.Operand.const (Go.Value.int Go.IntKind.i64 1)) i_8 (Go.Value.int Go.IntKind.i64 1)) w26 fun t40 w27 =>
      k11 t4 t40 w27))))
    [t4, t10] w15)
  (fun (t4 : Value) (i_8 : Value) (w28 : World) => 
  R (Go.Value.bool true) w28)))
theorem S26_eq (out_0 l_1 : Value) (w : World) (R : Value → World → Prop) : vcFn Try.prog Try.f26 [out_0, l_1] w R = S26 out_0 l_1 w R := by kernel_rfl
theorem D26 {out_0 l_1 : Value} {w : World} {R : Value → World → Prop} (h : S26 out_0 l_1 w R) : Does Try.prog 26 [out_0, l_1] w R :=
  does_of_vc mixed Try.func26 (by kernel_rfl) (by kernel_rfl) ((S26_eq out_0 l_1 w R).mpr h)

/-- busbar/busbarkit.KeptTables -/
def S27 (out_0 l_1 : Value) (w : World) (R : Value → World → Prop) : Prop :=
  Run Try.prog (Builtin.len_ #[30] 3 #[l_1]) w fun t10 w1 =>
  Run Try.prog (Builtin.len_ #[30] 3 #[out_0]) w1 fun t12 w2 =>
  Run Try.prog (binSem Go.BinOp.neq 3 (Go.Operand.tmp 12) (Go.Operand.tmp 13) t12 t10) w2 fun t14 w3 =>
  CondP t14 1 (fun (k1 : N1) =>
    R (Go.Value.bool false) w3)
  (fun (k2 : N1) =>
    k2 (Go.Value.bool false) w3)
  (fun (t4 : Value) (w4 : World) => 
  Run Try.prog (binSem Go.BinOp.add 3 (Go.Operand.tmp 16) (Go.Operand.const (Go.Value.int Go.IntKind.i64 16)) t10 (Go.Value.int Go.IntKind.i64 16)) w4 fun t17 w5 =>
  Run Try.prog (Instr.sliceAt 30 out_0 none (some t17) none) w5 fun t18 w6 =>
  JoinP 2 (fun (k3 : N2) =>
    LoopP 2 (fun (k4 : N2) => (fun (t4 : Value) (i_7 : Value) (w7 : World) => 
      Run Try.prog (binSem Go.BinOp.lss 3 (Go.Operand.tmp 19) (Go.Operand.tmp 20) i_7 t10) w7 fun t21 w8 =>
      CondP t21 0 (fun (k5 : N0) =>
        k5 w8)
      (fun (k6 : N0) =>
        k3 t4 i_7 w8)
      (fun (w9 : World) => 
      JoinP 1 (fun (k7 : N1) =>
        ∀ w10, Ext w9 w10 →
        RunQ Try.prog (Instr.indexAt 30 t18 i_7) w10 fun t26 =>
        RunQ Try.prog (Instr.loadAt 79 t26) w10 fun t27 =>
        RunQ Try.prog (Instr.indexAt 30 l_1 i_7) w10 fun t30 =>
        RunQ Try.prog (Instr.loadAt 79 t30) w10 fun t31 =>
        GoN Try.prog (callFunc 58 #[t27, t31]) w10 fun t32 w11 => Ext w10 w11 ∧
        RunQ Try.prog (Op.unary Go.UnOp.not t32) w10 fun t33 =>
        CondP t33 1 (fun (k8 : N1) =>
          R (Go.Value.bool false) w11)
        (fun (k9 : N1) =>
          k9 t4 w11)
        (fun (t4 : Value) (w12 : World) => 
        k7 t4 w12))
      (fun (t4 : Value) (w13 : World) => 
      Run Try.prog (binSem Go.BinOp.add 3 (Go.Operand.tmp 22) (Go.Operand.const (Go.Value.int Go.IntKind.i64 1)) i_7 (Go.Value.int Go.IntKind.i64 1)) w13 fun t23 w14 =>
      k4 t4 t23 w14))))
    [t4, (Go.Value.int Go.IntKind.i64 0)] w6)
  (fun (t4 : Value) (i_7 : Value) (w15 : World) => 
  JoinP 2 (fun (k10 : N2) =>
    LoopP 2 (fun (k11 : N2) => (fun (t4 : Value) (i_8 : Value) (w16 : World) => 
      Run Try.prog (Builtin.len_ #[30] 3 #[t18]) w16 fun t37 w17 =>
      Run Try.prog (binSem Go.BinOp.lss 3 (Go.Operand.tmp 35) (Go.Operand.tmp 37) i_8 t37) w17 fun t38 w18 =>
      CondP t38 0 (fun (k12 : N0) =>
        k12 w18)
      (fun (k13 : N0) =>
        k10 t4 i_8 w18)
      (fun (w19 : World) => 
      JoinP 1 (fun (k14 : N1) =>
        Run Try.prog (Instr.indexAt 30 t18 i_8) w19 fun t43 w20 =>
        Run Try.prog (Instr.fieldAt 79 t43 3) w20 fun t44 w21 =>
        Run Try.prog (Instr.loadAt 9 t44) w21 fun t45 w22 =>
        Run Try.prog (binSem Go.BinOp.eql 9 (Go.Operand.tmp 45) (Go.Operand.const (Go.Value.string { data := #[115, 112, 97, 114, 101] })) t45 (Go.Value.string { data := #[115, 112, 97, 114, 101] })) w22 fun t46 w23 =>
        Run Try.prog (Op.unary Go.UnOp.not t46) w23 fun t47 w24 =>
        CondP t47 1 (fun (k15 : N1) =>
          R (Go.Value.bool false) w24)
        (fun (k16 : N1) =>
          k16 t4 w24)
        (fun (t4 : Value) (w25 : World) => 
        k14 t4 w25))
      (fun (t4 : Value) (w26 : World) => 
      Run Try.prog (binSem Go.BinOp.add 3 (Go.Operand.tmp 39) (Go.Operand.const (Go.Value.int Go.IntKind.i64 1)) i_8 (Go.Value.int Go.IntKind.i64 1)) w26 fun t40 w27 =>
      k11 t4 t40 w27))))
    [t4, t10] w15)
  (fun (t4 : Value) (i_8 : Value) (w28 : World) => 
  R (Go.Value.bool true) w28)))
theorem S27_eq (out_0 l_1 : Value) (w : World) (R : Value → World → Prop) : vcFn Try.prog Try.f27 [out_0, l_1] w R = S27 out_0 l_1 w R := by kernel_rfl
theorem D27 {out_0 l_1 : Value} {w : World} {R : Value → World → Prop} (h : S27 out_0 l_1 w R) : Does Try.prog 27 [out_0, l_1] w R :=
  does_of_vc mixed Try.func27 (by kernel_rfl) (by kernel_rfl) ((S27_eq out_0 l_1 w R).mpr h)

/-- busbar/busbarkit.KeptStations -/
def S28 (x_0 s_1 : Value) (w : World) (R : Value → World → Prop) : Prop :=
  Run Try.prog (Instr.box 28 x_0) w fun x_2 w1 =>
  Run Try.prog (Instr.box 28 s_1) w1 fun s_3 w2 =>
  Run Try.prog (Instr.fieldAt 28 x_2 0) w2 fun t5 w3 =>
  Run Try.prog (Instr.loadAt 23 t5) w3 fun t6 w4 =>
  Run Try.prog (Instr.fieldAt 28 s_3 0) w4 fun t7 w5 =>
  Run Try.prog (Instr.loadAt 23 t7) w5 fun t8 w6 =>
  Run Try.prog (binSem Go.BinOp.eql 23 (Go.Operand.tmp 6) (Go.Operand.tmp 8) t6 t8) w6 fun t9 w7 =>
  GuardP t9 true (fun (k1 : N1) => Run Try.prog (Instr.fieldAt 28 x_2 1) w7 k1) w7 fun t11 w8 =>
  GuardP t9 true (fun (k2 : N1) => Run Try.prog (Instr.loadAt 26 t11) w8 k2) w8 fun t12 w9 =>
  GuardP t9 true (fun (k3 : N1) => Run Try.prog (Instr.fieldAt 28 s_3 1) w9 k3) w9 fun t13 w10 =>
  GuardP t9 true (fun (k4 : N1) => Run Try.prog (Instr.loadAt 26 t13) w10 k4) w10 fun t14 w11 =>
  GuardP t9 true (fun (k5 : N1) => GoN Try.prog (callFunc 59 #[t12, t14]) w11 k5) w11 fun t15 w12 =>
  PickP t9 t15 (Go.Value.bool false) w12 fun t16 w13 =>
  R t16 w13
theorem S28_eq (x_0 s_1 : Value) (w : World) (R : Value → World → Prop) : vcFn Try.prog Try.f28 [x_0, s_1] w R = S28 x_0 s_1 w R := by kernel_rfl
theorem D28 {x_0 s_1 : Value} {w : World} {R : Value → World → Prop} (h : S28 x_0 s_1 w R) : Does Try.prog 28 [x_0, s_1] w R :=
  does_of_vc mixed Try.func28 (by kernel_rfl) (by kernel_rfl) ((S28_eq x_0 s_1 w R).mpr h)

/-- (*busbar/busbarkit.Book).Stations -/
def S29 (b_0 s_1 : Value) (w : World) (R : Value → World → Prop) : Prop :=
  Run Try.prog (Instr.box 28 s_1) w fun s_3 w1 =>
  Run Try.prog (Instr.fieldAt 28 s_3 1) w1 fun t5 w2 =>
  Run Try.prog (Instr.loadAt 26 t5) w2 fun t6 w3 =>
  GoN Try.prog (callFunc 60 #[b_0, t6]) w3 fun t7 w4 =>
  R (.tuple #[]) w4
theorem S29_eq (b_0 s_1 : Value) (w : World) (R : Value → World → Prop) : vcFn Try.prog Try.f29 [b_0, s_1] w R = S29 b_0 s_1 w R := by kernel_rfl
theorem D29 {b_0 s_1 : Value} {w : World} {R : Value → World → Prop} (h : S29 b_0 s_1 w R) : Does Try.prog 29 [b_0, s_1] w R :=
  does_of_vc mixed Try.func29 (by kernel_rfl) (by kernel_rfl) ((S29_eq b_0 s_1 w R).mpr h)

/-- (*busbar/busbarkit.Book).Table -/
def S30 (b_0 s_1 : Value) (w : World) (R : Value → World → Prop) : Prop :=
  Run Try.prog (Instr.box 79 s_1) w fun s_3 w1 =>
  Run Try.prog (Instr.fieldAt 79 s_3 4) w1 fun t5 w2 =>
  Run Try.prog (Instr.loadAt 77 t5) w2 fun t6 w3 =>
  GoN Try.prog (callFunc 61 #[b_0, t6]) w3 fun t7 w4 =>
  R (.tuple #[]) w4
theorem S30_eq (b_0 s_1 : Value) (w : World) (R : Value → World → Prop) : vcFn Try.prog Try.f30 [b_0, s_1] w R = S30 b_0 s_1 w R := by kernel_rfl
theorem D30 {b_0 s_1 : Value} {w : World} {R : Value → World → Prop} (h : S30 b_0 s_1 w R) : Does Try.prog 30 [b_0, s_1] w R :=
  does_of_vc mixed Try.func30 (by kernel_rfl) (by kernel_rfl) ((S30_eq b_0 s_1 w R).mpr h)

/-- busbar/busbarkit.ApartBytes -/
def S31 (ls_0 : Value) (w : World) (R : Value → World → Prop) : Prop :=
  JoinP 1 (fun (k1 : N1) =>
    LoopP 1 (fun (k2 : N1) => (fun (k_3 : Value) (w1 : World) => 
      Run Try.prog (Builtin.len_ #[38] 3 #[ls_0]) w1 fun t14 w2 =>
      Run Try.prog (binSem Go.BinOp.lss 3 (Go.Operand.tmp 12) (Go.Operand.tmp 14) k_3 t14) w2 fun t15 w3 =>
      CondP t15 0 (fun (k3 : N0) =>
        k3 w3)
      (fun (k4 : N0) =>
        k1 k_3 w3)
      (fun (w4 : World) => 
      JoinP 0 (fun (k5 : N0) =>
        JoinP 1 (fun (k6 : N1) =>
          LoopP 1 (fun (k7 : N1) => (fun (i_4 : Value) (w5 : World) => 
            Run Try.prog (Instr.indexAt 38 ls_0 k_3) w5 fun t21 w6 =>
            Run Try.prog (Instr.loadAt 127 t21) w6 fun t22 w7 =>
            Run Try.prog (Builtin.len_ #[127] 3 #[t22]) w7 fun t23 w8 =>
            Run Try.prog (binSem Go.BinOp.lss 3 (Go.Operand.tmp 18) (Go.Operand.tmp 23) i_4 t23) w8 fun t24 w9 =>
            CondP t24 0 (fun (k8 : N0) =>
              k8 w9)
            (fun (k9 : N0) =>
              k6 i_4 w9)
            (fun (w10 : World) => 
            JoinP 0 (fun (k10 : N0) =>
              ∀ w11, Ext w10 w11 →
              RunQ Try.prog (Instr.indexAt 38 ls_0 k_3) w11 fun t29 =>
              RunQ Try.prog (Instr.loadAt 127 t29) w11 fun t30 =>
              GoN Try.prog (callFunc 62 #[k_3, i_4]) w11 fun t34 w12 => Ext w11 w12 ∧
              RunQ Try.prog (Instr.indexAt 127 t30 i_4) w11 fun t35 =>
              RunU Try.prog (Instr.storeAt 5 t35 t34) w12 fun w13 =>
              k10 w13)
            (fun (w14 : World) => 
            Run Try.prog (binSem Go.BinOp.add 3 (Go.Operand.tmp 25) (Go.Operand.const (Go.Value.int Go.IntKind.i64 1)) i_4 (Go.Value.int Go.IntKind.i64 1)) w14 fun t26 w15 =>
            k7 t26 w15))))
          [(Go.Value.int Go.IntKind.i64 0)] w4)
        (fun (i_4 : Value) (w16 : World) => 
        k5 w16))
      (fun (w17 : World) => 
      Run Try.prog (binSem Go.BinOp.add 3 (Go.Operand.tmp 16) (Go.Operand.const (Go.Value.int Go.IntKind.i64 1)) k_3 (Go.Value.int Go.IntKind.i64 1)) w17 fun t17 w18 =>
      k2 t17 w18))))
    [(Go.Value.int Go.IntKind.i64 0)] w)
  (fun (k_3 : Value) (w19 : World) => 
  JoinP 2 (fun (k11 : N2) =>
    LoopP 2 (fun (k12 : N2) => (fun (gs_5 : Value) (k_6 : Value) (w20 : World) => 
      Run Try.prog (Builtin.len_ #[38] 3 #[ls_0]) w20 fun t38 w21 =>
      Run Try.prog (binSem Go.BinOp.lss 3 (Go.Operand.tmp 36) (Go.Operand.tmp 38) k_6 t38) w21 fun t39 w22 =>
      CondP t39 0 (fun (k13 : N0) =>
        k13 w22)
      (fun (k14 : N0) =>
        k11 gs_5 k_6 w22)
      (fun (w23 : World) => 
      JoinP 1 (fun (k15 : N1) =>
        Run Try.prog (Instr.indexAt 38 ls_0 k_6) w23 fun t44 w24 =>
        Run Try.prog (Instr.loadAt 127 t44) w24 fun t45 w25 =>
        JoinP 2 (fun (k16 : N2) =>
          LoopP 2 (fun (k17 : N2) => (fun (g_7 : Value) (i_8 : Value) (w26 : World) => 
            Run Try.prog (binSem Go.BinOp.lss 3 (Go.Operand.tmp 46) (Go.Operand.const (Go.Value.int Go.IntKind.i64 64)) i_8 (Go.Value.int Go.IntKind.i64 64)) w26 fun t47 w27 =>
            CondP t47 0 (fun (k18 : N0) =>
              k18 w27)
            (fun (k19 : N0) =>
              k16 g_7 i_8 w27)
            (fun (w28 : World) => 
            JoinP 1 (fun (k20 : N1) =>
              Run Try.prog (Instr.indexAt 38 ls_0 k_6) w28 fun t54 w29 =>
              Run Try.prog (Instr.loadAt 127 t54) w29 fun t55 w30 =>
              Run Try.prog (Builtin.len_ #[127] 3 #[t55]) w30 fun t56 w31 =>
              Run Try.prog (binSem Go.BinOp.add 3 (Go.Operand.tmp 56) (Go.Operand.tmp 57) t56 i_8) w31 fun t58 w32 =>
              GoN Try.prog (callFunc 62 #[k_6, t58]) w32 fun t59 w33 =>
              Run Try.prog (Instr.buildSlice 127 1 #[(0, t59)]) w33 fun t60 w34 =>
              Run Try.prog (Builtin.append_ #[127, 127] 127 #[g_7, t60]) w34 fun t61 w35 =>
              k20 t61 w35)
            (fun (g_7 : Value) (w36 : World) => 
            Run Try.prog (binSem Go.BinOp.add 3 (Go.Operand.tmp 48) (Go.Operand.const (Go.Value.int Go.IntKind.i64 1)) i_8 (Go.Value.int Go.IntKind.i64 1)) w36 fun t49 w37 =>
            k17 g_7 t49 w37))))
          [t45, (Go.Value.int Go.IntKind.i64 0)] w25)
        (fun (g_7 : Value) (i_8 : Value) (w38 : World) => 
        Run Try.prog (Instr.buildSlice 38 1 #[(0, g_7)]) w38 fun t64 w39 =>
        Run Try.prog (Builtin.append_ #[38, 38] 38 #[gs_5, t64]) w39 fun t65 w40 =>
        k15 t65 w40))
      (fun (gs_5 : Value) (w41 : World) => 
      Run Try.prog (binSem Go.BinOp.add 3 (Go.Operand.tmp 40) (Go.Operand.const (Go.Value.int Go.IntKind.i64 1)) k_6 (Go.Value.int Go.IntKind.i64 1)) w41 fun t41 w42 =>
      k12 gs_5 t41 w42))))
    [(Go.Value.slice none 0 0), (Go.Value.int Go.IntKind.i64 0)] w19)
  (fun (gs_5 : Value) (k_6 : Value) (w43 : World) => 
  JoinP 2 (fun (k21 : N2) =>
    LoopP 2 (fun (k22 : N2) => (fun (t2 : Value) (k_9 : Value) (w44 : World) => 
      Run Try.prog (Builtin.len_ #[38] 3 #[ls_0]) w44 fun t68 w45 =>
      Run Try.prog (binSem Go.BinOp.lss 3 (Go.Operand.tmp 66) (Go.Operand.tmp 68) k_9 t68) w45 fun t69 w46 =>
      CondP t69 0 (fun (k23 : N0) =>
        k23 w46)
      (fun (k24 : N0) =>
        k21 t2 k_9 w46)
      (fun (w47 : World) => 
      JoinP 1 (fun (k25 : N1) =>
        JoinP 2 (fun (k26 : N2) =>
          LoopP 2 (fun (k27 : N2) => (fun (t2 : Value) (i_10 : Value) (w48 : World) => 
            Run Try.prog (Instr.indexAt 38 gs_5 k_9) w48 fun t75 w49 =>
            Run Try.prog (Instr.loadAt 127 t75) w49 fun t76 w50 =>
            Run Try.prog (Builtin.len_ #[127] 3 #[t76]) w50 fun t77 w51 =>
            Run Try.prog (binSem Go.BinOp.lss 3 (Go.Operand.tmp 72) (Go.Operand.tmp 77) i_10 t77) w51 fun t78 w52 =>
            CondP t78 0 (fun (k28 : N0) =>
              k28 w52)
            (fun (k29 : N0) =>
              k26 t2 i_10 w52)
            (fun (w53 : World) => 
            JoinP 1 (fun (k30 : N1) =>
              GoN Try.prog (callFunc 62 #[k_9, i_10]) w53 fun t83 w54 =>
              Run Try.prog (Instr.indexAt 38 gs_5 k_9) w54 fun t86 w55 =>
              Run Try.prog (Instr.loadAt 127 t86) w55 fun t87 w56 =>
              Run Try.prog (Instr.indexAt 127 t87 i_10) w56 fun t89 w57 =>
              Run Try.prog (Instr.loadAt 5 t89) w57 fun t90 w58 =>
              Run Try.prog (binSem Go.BinOp.neq 5 (Go.Operand.tmp 90) (Go.Operand.tmp 91) t90 t83) w58 fun t92 w59 =>
              GuardP t92 false (fun (k31 : N1) => k31 i_10 w59) w59 fun t94 w60 =>
              GuardP t92 false (fun (k32 : N1) => k32 ls_0 w60) w60 fun t95 w61 =>
              GuardP t92 false (fun (k33 : N1) => k33 k_9 w61) w61 fun t96 w62 =>
              GuardP t92 false (fun (k34 : N1) => Run Try.prog (Instr.indexAt 38 t95 t96) w62 k34) w62 fun t97 w63 =>
              GuardP t92 false (fun (k35 : N1) => Run Try.prog (Instr.loadAt 127 t97) w63 k35) w63 fun t98 w64 =>
              GuardP t92 false (fun (k36 : N1) => Run Try.prog (Builtin.len_ #[127] 3 #[t98]) w64 k36) w64 fun t99 w65 =>
              GuardP t92 false (fun (k37 : N1) => Run Try.prog (binSem Go.BinOp.lss 3 (Go.Operand.tmp 94) (Go.Operand.tmp 99) t94 t99) w65 k37) w65 fun t100 w66 =>
              GuardP t92 false (fun (k38 : N1) => k38 t100 w66) w66 fun t101 w67 =>
              GuardP t101 true (fun (k39 : N1) => k39 ls_0 w67) w67 fun t102 w68 =>
              GuardP t101 true (fun (k40 : N1) => k40 k_9 w68) w68 fun t103 w69 =>
              GuardP t101 true (fun (k41 : N1) => Run Try.prog (Instr.indexAt 38 t102 t103) w69 k41) w69 fun t104 w70 =>
              GuardP t101 true (fun (k42 : N1) => Run Try.prog (Instr.loadAt 127 t104) w70 k42) w70 fun t105 w71 =>
              GuardP t101 true (fun (k43 : N1) => k43 i_10 w71) w71 fun t106 w72 =>
              GuardP t101 true (fun (k44 : N1) => Run Try.prog (Instr.indexAt 127 t105 t106) w72 k44) w72 fun t107 w73 =>
              GuardP t101 true (fun (k45 : N1) => Run Try.prog (Instr.loadAt 5 t107) w73 k45) w73 fun t108 w74 =>
              GuardP t101 true (fun (k46 : N1) => k46 t83 w74) w74 fun t109 w75 =>
              GuardP t101 true (fun (k47 : N1) => Run Try.prog (binSem Go.BinOp.neq 5 (Go.Operand.tmp 108) (Go.Operand.tmp 109) t108 t109) w75 k47) w75 fun t110 w76 =>
              GuardP t92 false (fun (k48 : N1) => PickP t101 t110 (Go.Value.bool false) w76 k48) w76 fun t111 w77 =>
              PickP t92 (Go.Value.bool true) t111 w77 fun t112 w78 =>
              CondP t112 1 (fun (k49 : N1) =>
                R (Go.Value.bool false) w78)
              (fun (k50 : N1) =>
                k50 t2 w78)
              (fun (t2 : Value) (w79 : World) => 
              k30 t2 w79))
            (fun (t2 : Value) (w80 : World) => 
            Run Try.prog (binSem Go.BinOp.add 3 (Go.Operand.tmp 79) (Go.Operand.const (Go.Value.int Go.IntKind.i64 1)) i_10 (Go.Value.int Go.IntKind.i64 1)) w80 fun t80 w81 =>
            k27 t2 t80 w81))))
          [t2, (Go.Value.int Go.IntKind.i64 0)] w47)
        (fun (t2 : Value) (i_10 : Value) (w82 : World) => 
        k25 t2 w82))
      (fun (t2 : Value) (w83 : World) => 
      Run Try.prog (binSem Go.BinOp.add 3 (Go.Operand.tmp 70) (Go.Operand.const (Go.Value.int Go.IntKind.i64 1)) k_9 (Go.Value.int Go.IntKind.i64 1)) w83 fun t71 w84 =>
      k22 t2 t71 w84))))
    [(Go.Value.bool false), (Go.Value.int Go.IntKind.i64 0)] w43)
  (fun (t2 : Value) (k_9 : Value) (w85 : World) => 
  R (Go.Value.bool true) w85)))
theorem S31_eq (ls_0 : Value) (w : World) (R : Value → World → Prop) : vcFn Try.prog Try.f31 [ls_0] w R = S31 ls_0 w R := by kernel_rfl
theorem D31 {ls_0 : Value} {w : World} {R : Value → World → Prop} (h : S31 ls_0 w R) : Does Try.prog 31 [ls_0] w R :=
  does_of_vc mixed Try.func31 (by kernel_rfl) (by kernel_rfl) ((S31_eq ls_0 w R).mpr h)

/-- busbar/busbarkit.ApartTexts -/
def S32 (ls_0 : Value) (w : World) (R : Value → World → Prop) : Prop :=
  JoinP 1 (fun (k1 : N1) =>
    LoopP 1 (fun (k2 : N1) => (fun (k_3 : Value) (w1 : World) => 
      Run Try.prog (Builtin.len_ #[39] 3 #[ls_0]) w1 fun t14 w2 =>
      Run Try.prog (binSem Go.BinOp.lss 3 (Go.Operand.tmp 12) (Go.Operand.tmp 14) k_3 t14) w2 fun t15 w3 =>
      CondP t15 0 (fun (k3 : N0) =>
        k3 w3)
      (fun (k4 : N0) =>
        k1 k_3 w3)
      (fun (w4 : World) => 
      JoinP 0 (fun (k5 : N0) =>
        JoinP 1 (fun (k6 : N1) =>
          LoopP 1 (fun (k7 : N1) => (fun (i_4 : Value) (w5 : World) => 
            Run Try.prog (Instr.indexAt 39 ls_0 k_3) w5 fun t21 w6 =>
            Run Try.prog (Instr.loadAt 26 t21) w6 fun t22 w7 =>
            Run Try.prog (Builtin.len_ #[26] 3 #[t22]) w7 fun t23 w8 =>
            Run Try.prog (binSem Go.BinOp.lss 3 (Go.Operand.tmp 18) (Go.Operand.tmp 23) i_4 t23) w8 fun t24 w9 =>
            CondP t24 0 (fun (k8 : N0) =>
              k8 w9)
            (fun (k9 : N0) =>
              k6 i_4 w9)
            (fun (w10 : World) => 
            JoinP 0 (fun (k10 : N0) =>
              ∀ w11, Ext w10 w11 →
              RunQ Try.prog (Instr.indexAt 39 ls_0 k_3) w11 fun t29 =>
              RunQ Try.prog (Instr.loadAt 26 t29) w11 fun t30 =>
              GoN Try.prog (callFunc 63 #[k_3, i_4]) w11 fun t34 w12 => Ext w11 w12 ∧
              RunQ Try.prog (Instr.indexAt 26 t30 i_4) w11 fun t35 =>
              RunU Try.prog (Instr.storeAt 9 t35 t34) w12 fun w13 =>
              k10 w13)
            (fun (w14 : World) => 
            Run Try.prog (binSem Go.BinOp.add 3 (Go.Operand.tmp 25) (Go.Operand.const (Go.Value.int Go.IntKind.i64 1)) i_4 (Go.Value.int Go.IntKind.i64 1)) w14 fun t26 w15 =>
            k7 t26 w15))))
          [(Go.Value.int Go.IntKind.i64 0)] w4)
        (fun (i_4 : Value) (w16 : World) => 
        k5 w16))
      (fun (w17 : World) => 
      Run Try.prog (binSem Go.BinOp.add 3 (Go.Operand.tmp 16) (Go.Operand.const (Go.Value.int Go.IntKind.i64 1)) k_3 (Go.Value.int Go.IntKind.i64 1)) w17 fun t17 w18 =>
      k2 t17 w18))))
    [(Go.Value.int Go.IntKind.i64 0)] w)
  (fun (k_3 : Value) (w19 : World) => 
  JoinP 2 (fun (k11 : N2) =>
    LoopP 2 (fun (k12 : N2) => (fun (gs_5 : Value) (k_6 : Value) (w20 : World) => 
      Run Try.prog (Builtin.len_ #[39] 3 #[ls_0]) w20 fun t38 w21 =>
      Run Try.prog (binSem Go.BinOp.lss 3 (Go.Operand.tmp 36) (Go.Operand.tmp 38) k_6 t38) w21 fun t39 w22 =>
      CondP t39 0 (fun (k13 : N0) =>
        k13 w22)
      (fun (k14 : N0) =>
        k11 gs_5 k_6 w22)
      (fun (w23 : World) => 
      JoinP 1 (fun (k15 : N1) =>
        Run Try.prog (Instr.indexAt 39 ls_0 k_6) w23 fun t44 w24 =>
        Run Try.prog (Instr.loadAt 26 t44) w24 fun t45 w25 =>
        JoinP 2 (fun (k16 : N2) =>
          LoopP 2 (fun (k17 : N2) => (fun (g_7 : Value) (i_8 : Value) (w26 : World) => 
            Run Try.prog (binSem Go.BinOp.lss 3 (Go.Operand.tmp 46) (Go.Operand.const (Go.Value.int Go.IntKind.i64 64)) i_8 (Go.Value.int Go.IntKind.i64 64)) w26 fun t47 w27 =>
            CondP t47 0 (fun (k18 : N0) =>
              k18 w27)
            (fun (k19 : N0) =>
              k16 g_7 i_8 w27)
            (fun (w28 : World) => 
            JoinP 1 (fun (k20 : N1) =>
              Run Try.prog (Instr.indexAt 39 ls_0 k_6) w28 fun t54 w29 =>
              Run Try.prog (Instr.loadAt 26 t54) w29 fun t55 w30 =>
              Run Try.prog (Builtin.len_ #[26] 3 #[t55]) w30 fun t56 w31 =>
              Run Try.prog (binSem Go.BinOp.add 3 (Go.Operand.tmp 56) (Go.Operand.tmp 57) t56 i_8) w31 fun t58 w32 =>
              GoN Try.prog (callFunc 63 #[k_6, t58]) w32 fun t59 w33 =>
              Run Try.prog (Instr.buildSlice 26 1 #[(0, t59)]) w33 fun t60 w34 =>
              Run Try.prog (Builtin.append_ #[26, 26] 26 #[g_7, t60]) w34 fun t61 w35 =>
              k20 t61 w35)
            (fun (g_7 : Value) (w36 : World) => 
            Run Try.prog (binSem Go.BinOp.add 3 (Go.Operand.tmp 48) (Go.Operand.const (Go.Value.int Go.IntKind.i64 1)) i_8 (Go.Value.int Go.IntKind.i64 1)) w36 fun t49 w37 =>
            k17 g_7 t49 w37))))
          [t45, (Go.Value.int Go.IntKind.i64 0)] w25)
        (fun (g_7 : Value) (i_8 : Value) (w38 : World) => 
        Run Try.prog (Instr.buildSlice 39 1 #[(0, g_7)]) w38 fun t64 w39 =>
        Run Try.prog (Builtin.append_ #[39, 39] 39 #[gs_5, t64]) w39 fun t65 w40 =>
        k15 t65 w40))
      (fun (gs_5 : Value) (w41 : World) => 
      Run Try.prog (binSem Go.BinOp.add 3 (Go.Operand.tmp 40) (Go.Operand.const (Go.Value.int Go.IntKind.i64 1)) k_6 (Go.Value.int Go.IntKind.i64 1)) w41 fun t41 w42 =>
      k12 gs_5 t41 w42))))
    [(Go.Value.slice none 0 0), (Go.Value.int Go.IntKind.i64 0)] w19)
  (fun (gs_5 : Value) (k_6 : Value) (w43 : World) => 
  JoinP 2 (fun (k21 : N2) =>
    LoopP 2 (fun (k22 : N2) => (fun (t2 : Value) (k_9 : Value) (w44 : World) => 
      Run Try.prog (Builtin.len_ #[39] 3 #[ls_0]) w44 fun t68 w45 =>
      Run Try.prog (binSem Go.BinOp.lss 3 (Go.Operand.tmp 66) (Go.Operand.tmp 68) k_9 t68) w45 fun t69 w46 =>
      CondP t69 0 (fun (k23 : N0) =>
        k23 w46)
      (fun (k24 : N0) =>
        k21 t2 k_9 w46)
      (fun (w47 : World) => 
      JoinP 1 (fun (k25 : N1) =>
        JoinP 2 (fun (k26 : N2) =>
          LoopP 2 (fun (k27 : N2) => (fun (t2 : Value) (i_10 : Value) (w48 : World) => 
            Run Try.prog (Instr.indexAt 39 gs_5 k_9) w48 fun t75 w49 =>
            Run Try.prog (Instr.loadAt 26 t75) w49 fun t76 w50 =>
            Run Try.prog (Builtin.len_ #[26] 3 #[t76]) w50 fun t77 w51 =>
            Run Try.prog (binSem Go.BinOp.lss 3 (Go.Operand.tmp 72) (Go.Operand.tmp 77) i_10 t77) w51 fun t78 w52 =>
            CondP t78 0 (fun (k28 : N0) =>
              k28 w52)
            (fun (k29 : N0) =>
              k26 t2 i_10 w52)
            (fun (w53 : World) => 
            JoinP 1 (fun (k30 : N1) =>
              GoN Try.prog (callFunc 63 #[k_9, i_10]) w53 fun t83 w54 =>
              Run Try.prog (Instr.indexAt 39 gs_5 k_9) w54 fun t86 w55 =>
              Run Try.prog (Instr.loadAt 26 t86) w55 fun t87 w56 =>
              Run Try.prog (Instr.indexAt 26 t87 i_10) w56 fun t89 w57 =>
              Run Try.prog (Instr.loadAt 9 t89) w57 fun t90 w58 =>
              Run Try.prog (binSem Go.BinOp.neq 9 (Go.Operand.tmp 90) (Go.Operand.tmp 91) t90 t83) w58 fun t92 w59 =>
              GuardP t92 false (fun (k31 : N1) => k31 i_10 w59) w59 fun t94 w60 =>
              GuardP t92 false (fun (k32 : N1) => k32 ls_0 w60) w60 fun t95 w61 =>
              GuardP t92 false (fun (k33 : N1) => k33 k_9 w61) w61 fun t96 w62 =>
              GuardP t92 false (fun (k34 : N1) => Run Try.prog (Instr.indexAt 39 t95 t96) w62 k34) w62 fun t97 w63 =>
              GuardP t92 false (fun (k35 : N1) => Run Try.prog (Instr.loadAt 26 t97) w63 k35) w63 fun t98 w64 =>
              GuardP t92 false (fun (k36 : N1) => Run Try.prog (Builtin.len_ #[26] 3 #[t98]) w64 k36) w64 fun t99 w65 =>
              GuardP t92 false (fun (k37 : N1) => Run Try.prog (binSem Go.BinOp.lss 3 (Go.Operand.tmp 94) (Go.Operand.tmp 99) t94 t99) w65 k37) w65 fun t100 w66 =>
              GuardP t92 false (fun (k38 : N1) => k38 t100 w66) w66 fun t101 w67 =>
              GuardP t101 true (fun (k39 : N1) => k39 ls_0 w67) w67 fun t102 w68 =>
              GuardP t101 true (fun (k40 : N1) => k40 k_9 w68) w68 fun t103 w69 =>
              GuardP t101 true (fun (k41 : N1) => Run Try.prog (Instr.indexAt 39 t102 t103) w69 k41) w69 fun t104 w70 =>
              GuardP t101 true (fun (k42 : N1) => Run Try.prog (Instr.loadAt 26 t104) w70 k42) w70 fun t105 w71 =>
              GuardP t101 true (fun (k43 : N1) => k43 i_10 w71) w71 fun t106 w72 =>
              GuardP t101 true (fun (k44 : N1) => Run Try.prog (Instr.indexAt 26 t105 t106) w72 k44) w72 fun t107 w73 =>
              GuardP t101 true (fun (k45 : N1) => Run Try.prog (Instr.loadAt 9 t107) w73 k45) w73 fun t108 w74 =>
              GuardP t101 true (fun (k46 : N1) => k46 t83 w74) w74 fun t109 w75 =>
              GuardP t101 true (fun (k47 : N1) => Run Try.prog (binSem Go.BinOp.neq 9 (Go.Operand.tmp 108) (Go.Operand.tmp 109) t108 t109) w75 k47) w75 fun t110 w76 =>
              GuardP t92 false (fun (k48 : N1) => PickP t101 t110 (Go.Value.bool false) w76 k48) w76 fun t111 w77 =>
              PickP t92 (Go.Value.bool true) t111 w77 fun t112 w78 =>
              CondP t112 1 (fun (k49 : N1) =>
                R (Go.Value.bool false) w78)
              (fun (k50 : N1) =>
                k50 t2 w78)
              (fun (t2 : Value) (w79 : World) => 
              k30 t2 w79))
            (fun (t2 : Value) (w80 : World) => 
            Run Try.prog (binSem Go.BinOp.add 3 (Go.Operand.tmp 79) (Go.Operand.const (Go.Value.int Go.IntKind.i64 1)) i_10 (Go.Value.int Go.IntKind.i64 1)) w80 fun t80 w81 =>
            k27 t2 t80 w81))))
          [t2, (Go.Value.int Go.IntKind.i64 0)] w47)
        (fun (t2 : Value) (i_10 : Value) (w82 : World) => 
        k25 t2 w82))
      (fun (t2 : Value) (w83 : World) => 
      Run Try.prog (binSem Go.BinOp.add 3 (Go.Operand.tmp 70) (Go.Operand.const (Go.Value.int Go.IntKind.i64 1)) k_9 (Go.Value.int Go.IntKind.i64 1)) w83 fun t71 w84 =>
      k22 t2 t71 w84))))
    [(Go.Value.bool false), (Go.Value.int Go.IntKind.i64 0)] w43)
  (fun (t2 : Value) (k_9 : Value) (w85 : World) => 
  R (Go.Value.bool true) w85)))
theorem S32_eq (ls_0 : Value) (w : World) (R : Value → World → Prop) : vcFn Try.prog Try.f32 [ls_0] w R = S32 ls_0 w R := by kernel_rfl
theorem D32 {ls_0 : Value} {w : World} {R : Value → World → Prop} (h : S32 ls_0 w R) : Does Try.prog 32 [ls_0] w R :=
  does_of_vc mixed Try.func32 (by kernel_rfl) (by kernel_rfl) ((S32_eq ls_0 w R).mpr h)

/-- busbar/busbarkit.ApartInts -/
def S33 (ls_0 : Value) (w : World) (R : Value → World → Prop) : Prop :=
  JoinP 1 (fun (k1 : N1) =>
    LoopP 1 (fun (k2 : N1) => (fun (k_3 : Value) (w1 : World) => 
      Run Try.prog (Builtin.len_ #[40] 3 #[ls_0]) w1 fun t14 w2 =>
      Run Try.prog (binSem Go.BinOp.lss 3 (Go.Operand.tmp 12) (Go.Operand.tmp 14) k_3 t14) w2 fun t15 w3 =>
      CondP t15 0 (fun (k3 : N0) =>
        k3 w3)
      (fun (k4 : N0) =>
        k1 k_3 w3)
      (fun (w4 : World) => 
      JoinP 0 (fun (k5 : N0) =>
        JoinP 1 (fun (k6 : N1) =>
          LoopP 1 (fun (k7 : N1) => (fun (i_4 : Value) (w5 : World) => 
            Run Try.prog (Instr.indexAt 40 ls_0 k_3) w5 fun t21 w6 =>
            Run Try.prog (Instr.loadAt 81 t21) w6 fun t22 w7 =>
            Run Try.prog (Builtin.len_ #[81] 3 #[t22]) w7 fun t23 w8 =>
            Run Try.prog (binSem Go.BinOp.lss 3 (Go.Operand.tmp 18) (Go.Operand.tmp 23) i_4 t23) w8 fun t24 w9 =>
            CondP t24 0 (fun (k8 : N0) =>
              k8 w9)
            (fun (k9 : N0) =>
              k6 i_4 w9)
            (fun (w10 : World) => 
            JoinP 0 (fun (k10 : N0) =>
              ∀ w11, Ext w10 w11 →
              RunQ Try.prog (Instr.indexAt 40 ls_0 k_3) w11 fun t29 =>
              RunQ Try.prog (Instr.loadAt 81 t29) w11 fun t30 =>
              GoN Try.prog (callFunc 64 #[k_3, i_4]) w11 fun t34 w12 => Ext w11 w12 ∧
              RunQ Try.prog (Instr.indexAt 81 t30 i_4) w11 fun t35 =>
              RunU Try.prog (Instr.storeAt 3 t35 t34) w12 fun w13 =>
              k10 w13)
            (fun (w14 : World) => 
            Run Try.prog (binSem Go.BinOp.add 3 (Go.Operand.tmp 25) (Go.Operand.const (Go.Value.int Go.IntKind.i64 1)) i_4 (Go.Value.int Go.IntKind.i64 1)) w14 fun t26 w15 =>
            k7 t26 w15))))
          [(Go.Value.int Go.IntKind.i64 0)] w4)
        (fun (i_4 : Value) (w16 : World) => 
        k5 w16))
      (fun (w17 : World) => 
      Run Try.prog (binSem Go.BinOp.add 3 (Go.Operand.tmp 16) (Go.Operand.const (Go.Value.int Go.IntKind.i64 1)) k_3 (Go.Value.int Go.IntKind.i64 1)) w17 fun t17 w18 =>
      k2 t17 w18))))
    [(Go.Value.int Go.IntKind.i64 0)] w)
  (fun (k_3 : Value) (w19 : World) => 
  JoinP 2 (fun (k11 : N2) =>
    LoopP 2 (fun (k12 : N2) => (fun (gs_5 : Value) (k_6 : Value) (w20 : World) => 
      Run Try.prog (Builtin.len_ #[40] 3 #[ls_0]) w20 fun t38 w21 =>
      Run Try.prog (binSem Go.BinOp.lss 3 (Go.Operand.tmp 36) (Go.Operand.tmp 38) k_6 t38) w21 fun t39 w22 =>
      CondP t39 0 (fun (k13 : N0) =>
        k13 w22)
      (fun (k14 : N0) =>
        k11 gs_5 k_6 w22)
      (fun (w23 : World) => 
      JoinP 1 (fun (k15 : N1) =>
        Run Try.prog (Instr.indexAt 40 ls_0 k_6) w23 fun t44 w24 =>
        Run Try.prog (Instr.loadAt 81 t44) w24 fun t45 w25 =>
        JoinP 2 (fun (k16 : N2) =>
          LoopP 2 (fun (k17 : N2) => (fun (g_7 : Value) (i_8 : Value) (w26 : World) => 
            Run Try.prog (binSem Go.BinOp.lss 3 (Go.Operand.tmp 46) (Go.Operand.const (Go.Value.int Go.IntKind.i64 64)) i_8 (Go.Value.int Go.IntKind.i64 64)) w26 fun t47 w27 =>
            CondP t47 0 (fun (k18 : N0) =>
              k18 w27)
            (fun (k19 : N0) =>
              k16 g_7 i_8 w27)
            (fun (w28 : World) => 
            JoinP 1 (fun (k20 : N1) =>
              Run Try.prog (Instr.indexAt 40 ls_0 k_6) w28 fun t54 w29 =>
              Run Try.prog (Instr.loadAt 81 t54) w29 fun t55 w30 =>
              Run Try.prog (Builtin.len_ #[81] 3 #[t55]) w30 fun t56 w31 =>
              Run Try.prog (binSem Go.BinOp.add 3 (Go.Operand.tmp 56) (Go.Operand.tmp 57) t56 i_8) w31 fun t58 w32 =>
              GoN Try.prog (callFunc 64 #[k_6, t58]) w32 fun t59 w33 =>
              Run Try.prog (Instr.buildSlice 81 1 #[(0, t59)]) w33 fun t60 w34 =>
              Run Try.prog (Builtin.append_ #[81, 81] 81 #[g_7, t60]) w34 fun t61 w35 =>
              k20 t61 w35)
            (fun (g_7 : Value) (w36 : World) => 
            Run Try.prog (binSem Go.BinOp.add 3 (Go.Operand.tmp 48) (Go.Operand.const (Go.Value.int Go.IntKind.i64 1)) i_8 (Go.Value.int Go.IntKind.i64 1)) w36 fun t49 w37 =>
            k17 g_7 t49 w37))))
          [t45, (Go.Value.int Go.IntKind.i64 0)] w25)
        (fun (g_7 : Value) (i_8 : Value) (w38 : World) => 
        Run Try.prog (Instr.buildSlice 40 1 #[(0, g_7)]) w38 fun t64 w39 =>
        Run Try.prog (Builtin.append_ #[40, 40] 40 #[gs_5, t64]) w39 fun t65 w40 =>
        k15 t65 w40))
      (fun (gs_5 : Value) (w41 : World) => 
      Run Try.prog (binSem Go.BinOp.add 3 (Go.Operand.tmp 40) (Go.Operand.const (Go.Value.int Go.IntKind.i64 1)) k_6 (Go.Value.int Go.IntKind.i64 1)) w41 fun t41 w42 =>
      k12 gs_5 t41 w42))))
    [(Go.Value.slice none 0 0), (Go.Value.int Go.IntKind.i64 0)] w19)
  (fun (gs_5 : Value) (k_6 : Value) (w43 : World) => 
  JoinP 2 (fun (k21 : N2) =>
    LoopP 2 (fun (k22 : N2) => (fun (t2 : Value) (k_9 : Value) (w44 : World) => 
      Run Try.prog (Builtin.len_ #[40] 3 #[ls_0]) w44 fun t68 w45 =>
      Run Try.prog (binSem Go.BinOp.lss 3 (Go.Operand.tmp 66) (Go.Operand.tmp 68) k_9 t68) w45 fun t69 w46 =>
      CondP t69 0 (fun (k23 : N0) =>
        k23 w46)
      (fun (k24 : N0) =>
        k21 t2 k_9 w46)
      (fun (w47 : World) => 
      JoinP 1 (fun (k25 : N1) =>
        JoinP 2 (fun (k26 : N2) =>
          LoopP 2 (fun (k27 : N2) => (fun (t2 : Value) (i_10 : Value) (w48 : World) => 
            Run Try.prog (Instr.indexAt 40 gs_5 k_9) w48 fun t75 w49 =>
            Run Try.prog (Instr.loadAt 81 t75) w49 fun t76 w50 =>
            Run Try.prog (Builtin.len_ #[81] 3 #[t76]) w50 fun t77 w51 =>
            Run Try.prog (binSem Go.BinOp.lss 3 (Go.Operand.tmp 72) (Go.Operand.tmp 77) i_10 t77) w51 fun t78 w52 =>
            CondP t78 0 (fun (k28 : N0) =>
              k28 w52)
            (fun (k29 : N0) =>
              k26 t2 i_10 w52)
            (fun (w53 : World) => 
            JoinP 1 (fun (k30 : N1) =>
              GoN Try.prog (callFunc 64 #[k_9, i_10]) w53 fun t83 w54 =>
              Run Try.prog (Instr.indexAt 40 gs_5 k_9) w54 fun t86 w55 =>
              Run Try.prog (Instr.loadAt 81 t86) w55 fun t87 w56 =>
              Run Try.prog (Instr.indexAt 81 t87 i_10) w56 fun t89 w57 =>
              Run Try.prog (Instr.loadAt 3 t89) w57 fun t90 w58 =>
              Run Try.prog (binSem Go.BinOp.neq 3 (Go.Operand.tmp 90) (Go.Operand.tmp 91) t90 t83) w58 fun t92 w59 =>
              GuardP t92 false (fun (k31 : N1) => k31 i_10 w59) w59 fun t94 w60 =>
              GuardP t92 false (fun (k32 : N1) => k32 ls_0 w60) w60 fun t95 w61 =>
              GuardP t92 false (fun (k33 : N1) => k33 k_9 w61) w61 fun t96 w62 =>
              GuardP t92 false (fun (k34 : N1) => Run Try.prog (Instr.indexAt 40 t95 t96) w62 k34) w62 fun t97 w63 =>
              GuardP t92 false (fun (k35 : N1) => Run Try.prog (Instr.loadAt 81 t97) w63 k35) w63 fun t98 w64 =>
              GuardP t92 false (fun (k36 : N1) => Run Try.prog (Builtin.len_ #[81] 3 #[t98]) w64 k36) w64 fun t99 w65 =>
              GuardP t92 false (fun (k37 : N1) => Run Try.prog (binSem Go.BinOp.lss 3 (Go.Operand.tmp 94) (Go.Operand.tmp 99) t94 t99) w65 k37) w65 fun t100 w66 =>
              GuardP t92 false (fun (k38 : N1) => k38 t100 w66) w66 fun t101 w67 =>
              GuardP t101 true (fun (k39 : N1) => k39 ls_0 w67) w67 fun t102 w68 =>
              GuardP t101 true (fun (k40 : N1) => k40 k_9 w68) w68 fun t103 w69 =>
              GuardP t101 true (fun (k41 : N1) => Run Try.prog (Instr.indexAt 40 t102 t103) w69 k41) w69 fun t104 w70 =>
              GuardP t101 true (fun (k42 : N1) => Run Try.prog (Instr.loadAt 81 t104) w70 k42) w70 fun t105 w71 =>
              GuardP t101 true (fun (k43 : N1) => k43 i_10 w71) w71 fun t106 w72 =>
              GuardP t101 true (fun (k44 : N1) => Run Try.prog (Instr.indexAt 81 t105 t106) w72 k44) w72 fun t107 w73 =>
              GuardP t101 true (fun (k45 : N1) => Run Try.prog (Instr.loadAt 3 t107) w73 k45) w73 fun t108 w74 =>
              GuardP t101 true (fun (k46 : N1) => k46 t83 w74) w74 fun t109 w75 =>
              GuardP t101 true (fun (k47 : N1) => Run Try.prog (binSem Go.BinOp.neq 3 (Go.Operand.tmp 108) (Go.Operand.tmp 109) t108 t109) w75 k47) w75 fun t110 w76 =>
              GuardP t92 false (fun (k48 : N1) => PickP t101 t110 (Go.Value.bool false) w76 k48) w76 fun t111 w77 =>
              PickP t92 (Go.Value.bool true) t111 w77 fun t112 w78 =>
              CondP t112 1 (fun (k49 : N1) =>
                R (Go.Value.bool false) w78)
              (fun (k50 : N1) =>
                k50 t2 w78)
              (fun (t2 : Value) (w79 : World) => 
              k30 t2 w79))
            (fun (t2 : Value) (w80 : World) => 
            Run Try.prog (binSem Go.BinOp.add 3 (Go.Operand.tmp 79) (Go.Operand.const (Go.Value.int Go.IntKind.i64 1)) i_10 (Go.Value.int Go.IntKind.i64 1)) w80 fun t80 w81 =>
            k27 t2 t80 w81))))
          [t2, (Go.Value.int Go.IntKind.i64 0)] w47)
        (fun (t2 : Value) (i_10 : Value) (w82 : World) => 
        k25 t2 w82))
      (fun (t2 : Value) (w83 : World) => 
      Run Try.prog (binSem Go.BinOp.add 3 (Go.Operand.tmp 70) (Go.Operand.const (Go.Value.int Go.IntKind.i64 1)) k_9 (Go.Value.int Go.IntKind.i64 1)) w83 fun t71 w84 =>
      k22 t2 t71 w84))))
    [(Go.Value.bool false), (Go.Value.int Go.IntKind.i64 0)] w43)
  (fun (t2 : Value) (k_9 : Value) (w85 : World) => 
  R (Go.Value.bool true) w85)))
theorem S33_eq (ls_0 : Value) (w : World) (R : Value → World → Prop) : vcFn Try.prog Try.f33 [ls_0] w R = S33 ls_0 w R := by kernel_rfl
theorem D33 {ls_0 : Value} {w : World} {R : Value → World → Prop} (h : S33 ls_0 w R) : Does Try.prog 33 [ls_0] w R :=
  does_of_vc mixed Try.func33 (by kernel_rfl) (by kernel_rfl) ((S33_eq ls_0 w R).mpr h)

/-- busbar/busbarkit.ApartNumbers -/
def S34 (ls_0 : Value) (w : World) (R : Value → World → Prop) : Prop :=
  JoinP 1 (fun (k1 : N1) =>
    LoopP 1 (fun (k2 : N1) => (fun (k_3 : Value) (w1 : World) => 
      Run Try.prog (Builtin.len_ #[41] 3 #[ls_0]) w1 fun t14 w2 =>
      Run Try.prog (binSem Go.BinOp.lss 3 (Go.Operand.tmp 12) (Go.Operand.tmp 14) k_3 t14) w2 fun t15 w3 =>
      CondP t15 0 (fun (k3 : N0) =>
        k3 w3)
      (fun (k4 : N0) =>
        k1 k_3 w3)
      (fun (w4 : World) => 
      JoinP 0 (fun (k5 : N0) =>
        JoinP 1 (fun (k6 : N1) =>
          LoopP 1 (fun (k7 : N1) => (fun (i_4 : Value) (w5 : World) => 
            Run Try.prog (Instr.indexAt 41 ls_0 k_3) w5 fun t21 w6 =>
            Run Try.prog (Instr.loadAt 131 t21) w6 fun t22 w7 =>
            Run Try.prog (Builtin.len_ #[131] 3 #[t22]) w7 fun t23 w8 =>
            Run Try.prog (binSem Go.BinOp.lss 3 (Go.Operand.tmp 18) (Go.Operand.tmp 23) i_4 t23) w8 fun t24 w9 =>
            CondP t24 0 (fun (k8 : N0) =>
              k8 w9)
            (fun (k9 : N0) =>
              k6 i_4 w9)
            (fun (w10 : World) => 
            JoinP 0 (fun (k10 : N0) =>
              ∀ w11, Ext w10 w11 →
              RunQ Try.prog (Instr.indexAt 41 ls_0 k_3) w11 fun t29 =>
              RunQ Try.prog (Instr.loadAt 131 t29) w11 fun t30 =>
              GoN Try.prog (callFunc 65 #[k_3, i_4]) w11 fun t34 w12 => Ext w11 w12 ∧
              RunQ Try.prog (Instr.indexAt 131 t30 i_4) w11 fun t35 =>
              RunU Try.prog (Instr.storeAt 115 t35 t34) w12 fun w13 =>
              k10 w13)
            (fun (w14 : World) => 
            Run Try.prog (binSem Go.BinOp.add 3 (Go.Operand.tmp 25) (Go.Operand.const (Go.Value.int Go.IntKind.i64 1)) i_4 (Go.Value.int Go.IntKind.i64 1)) w14 fun t26 w15 =>
            k7 t26 w15))))
          [(Go.Value.int Go.IntKind.i64 0)] w4)
        (fun (i_4 : Value) (w16 : World) => 
        k5 w16))
      (fun (w17 : World) => 
      Run Try.prog (binSem Go.BinOp.add 3 (Go.Operand.tmp 16) (Go.Operand.const (Go.Value.int Go.IntKind.i64 1)) k_3 (Go.Value.int Go.IntKind.i64 1)) w17 fun t17 w18 =>
      k2 t17 w18))))
    [(Go.Value.int Go.IntKind.i64 0)] w)
  (fun (k_3 : Value) (w19 : World) => 
  JoinP 2 (fun (k11 : N2) =>
    LoopP 2 (fun (k12 : N2) => (fun (gs_5 : Value) (k_6 : Value) (w20 : World) => 
      Run Try.prog (Builtin.len_ #[41] 3 #[ls_0]) w20 fun t38 w21 =>
      Run Try.prog (binSem Go.BinOp.lss 3 (Go.Operand.tmp 36) (Go.Operand.tmp 38) k_6 t38) w21 fun t39 w22 =>
      CondP t39 0 (fun (k13 : N0) =>
        k13 w22)
      (fun (k14 : N0) =>
        k11 gs_5 k_6 w22)
      (fun (w23 : World) => 
      JoinP 1 (fun (k15 : N1) =>
        Run Try.prog (Instr.indexAt 41 ls_0 k_6) w23 fun t44 w24 =>
        Run Try.prog (Instr.loadAt 131 t44) w24 fun t45 w25 =>
        JoinP 2 (fun (k16 : N2) =>
          LoopP 2 (fun (k17 : N2) => (fun (g_7 : Value) (i_8 : Value) (w26 : World) => 
            Run Try.prog (binSem Go.BinOp.lss 3 (Go.Operand.tmp 46) (Go.Operand.const (Go.Value.int Go.IntKind.i64 64)) i_8 (Go.Value.int Go.IntKind.i64 64)) w26 fun t47 w27 =>
            CondP t47 0 (fun (k18 : N0) =>
              k18 w27)
            (fun (k19 : N0) =>
              k16 g_7 i_8 w27)
            (fun (w28 : World) => 
            JoinP 1 (fun (k20 : N1) =>
              Run Try.prog (Instr.indexAt 41 ls_0 k_6) w28 fun t54 w29 =>
              Run Try.prog (Instr.loadAt 131 t54) w29 fun t55 w30 =>
              Run Try.prog (Builtin.len_ #[131] 3 #[t55]) w30 fun t56 w31 =>
              Run Try.prog (binSem Go.BinOp.add 3 (Go.Operand.tmp 56) (Go.Operand.tmp 57) t56 i_8) w31 fun t58 w32 =>
              GoN Try.prog (callFunc 65 #[k_6, t58]) w32 fun t59 w33 =>
              Run Try.prog (Instr.buildSlice 131 1 #[(0, t59)]) w33 fun t60 w34 =>
              Run Try.prog (Builtin.append_ #[131, 131] 131 #[g_7, t60]) w34 fun t61 w35 =>
              k20 t61 w35)
            (fun (g_7 : Value) (w36 : World) => 
            Run Try.prog (binSem Go.BinOp.add 3 (Go.Operand.tmp 48) (Go.Operand.const (Go.Value.int Go.IntKind.i64 1)) i_8 (Go.Value.int Go.IntKind.i64 1)) w36 fun t49 w37 =>
            k17 g_7 t49 w37))))
          [t45, (Go.Value.int Go.IntKind.i64 0)] w25)
        (fun (g_7 : Value) (i_8 : Value) (w38 : World) => 
        Run Try.prog (Instr.buildSlice 41 1 #[(0, g_7)]) w38 fun t64 w39 =>
        Run Try.prog (Builtin.append_ #[41, 41] 41 #[gs_5, t64]) w39 fun t65 w40 =>
        k15 t65 w40))
      (fun (gs_5 : Value) (w41 : World) => 
      Run Try.prog (binSem Go.BinOp.add 3 (Go.Operand.tmp 40) (Go.Operand.const (Go.Value.int Go.IntKind.i64 1)) k_6 (Go.Value.int Go.IntKind.i64 1)) w41 fun t41 w42 =>
      k12 gs_5 t41 w42))))
    [(Go.Value.slice none 0 0), (Go.Value.int Go.IntKind.i64 0)] w19)
  (fun (gs_5 : Value) (k_6 : Value) (w43 : World) => 
  JoinP 2 (fun (k21 : N2) =>
    LoopP 2 (fun (k22 : N2) => (fun (t2 : Value) (k_9 : Value) (w44 : World) => 
      Run Try.prog (Builtin.len_ #[41] 3 #[ls_0]) w44 fun t68 w45 =>
      Run Try.prog (binSem Go.BinOp.lss 3 (Go.Operand.tmp 66) (Go.Operand.tmp 68) k_9 t68) w45 fun t69 w46 =>
      CondP t69 0 (fun (k23 : N0) =>
        k23 w46)
      (fun (k24 : N0) =>
        k21 t2 k_9 w46)
      (fun (w47 : World) => 
      JoinP 1 (fun (k25 : N1) =>
        JoinP 2 (fun (k26 : N2) =>
          LoopP 2 (fun (k27 : N2) => (fun (t2 : Value) (i_10 : Value) (w48 : World) => 
            Run Try.prog (Instr.indexAt 41 gs_5 k_9) w48 fun t75 w49 =>
            Run Try.prog (Instr.loadAt 131 t75) w49 fun t76 w50 =>
            Run Try.prog (Builtin.len_ #[131] 3 #[t76]) w50 fun t77 w51 =>
            Run Try.prog (binSem Go.BinOp.lss 3 (Go.Operand.tmp 72) (Go.Operand.tmp 77) i_10 t77) w51 fun t78 w52 =>
            CondP t78 0 (fun (k28 : N0) =>
              k28 w52)
            (fun (k29 : N0) =>
              k26 t2 i_10 w52)
            (fun (w53 : World) => 
            JoinP 1 (fun (k30 : N1) =>
              GoN Try.prog (callFunc 65 #[k_9, i_10]) w53 fun t83 w54 =>
              Run Try.prog (Instr.indexAt 41 gs_5 k_9) w54 fun t86 w55 =>
              Run Try.prog (Instr.loadAt 131 t86) w55 fun t87 w56 =>
              Run Try.prog (Instr.indexAt 131 t87 i_10) w56 fun t89 w57 =>
              Run Try.prog (Instr.loadAt 115 t89) w57 fun t90 w58 =>
              Run Try.prog (binSem Go.BinOp.neq 115 (Go.Operand.tmp 90) (Go.Operand.tmp 91) t90 t83) w58 fun t92 w59 =>
              GuardP t92 false (fun (k31 : N1) => k31 i_10 w59) w59 fun t94 w60 =>
              GuardP t92 false (fun (k32 : N1) => k32 ls_0 w60) w60 fun t95 w61 =>
              GuardP t92 false (fun (k33 : N1) => k33 k_9 w61) w61 fun t96 w62 =>
              GuardP t92 false (fun (k34 : N1) => Run Try.prog (Instr.indexAt 41 t95 t96) w62 k34) w62 fun t97 w63 =>
              GuardP t92 false (fun (k35 : N1) => Run Try.prog (Instr.loadAt 131 t97) w63 k35) w63 fun t98 w64 =>
              GuardP t92 false (fun (k36 : N1) => Run Try.prog (Builtin.len_ #[131] 3 #[t98]) w64 k36) w64 fun t99 w65 =>
              GuardP t92 false (fun (k37 : N1) => Run Try.prog (binSem Go.BinOp.lss 3 (Go.Operand.tmp 94) (Go.Operand.tmp 99) t94 t99) w65 k37) w65 fun t100 w66 =>
              GuardP t92 false (fun (k38 : N1) => k38 t100 w66) w66 fun t101 w67 =>
              GuardP t101 true (fun (k39 : N1) => k39 ls_0 w67) w67 fun t102 w68 =>
              GuardP t101 true (fun (k40 : N1) => k40 k_9 w68) w68 fun t103 w69 =>
              GuardP t101 true (fun (k41 : N1) => Run Try.prog (Instr.indexAt 41 t102 t103) w69 k41) w69 fun t104 w70 =>
              GuardP t101 true (fun (k42 : N1) => Run Try.prog (Instr.loadAt 131 t104) w70 k42) w70 fun t105 w71 =>
              GuardP t101 true (fun (k43 : N1) => k43 i_10 w71) w71 fun t106 w72 =>
              GuardP t101 true (fun (k44 : N1) => Run Try.prog (Instr.indexAt 131 t105 t106) w72 k44) w72 fun t107 w73 =>
              GuardP t101 true (fun (k45 : N1) => Run Try.prog (Instr.loadAt 115 t107) w73 k45) w73 fun t108 w74 =>
              GuardP t101 true (fun (k46 : N1) => k46 t83 w74) w74 fun t109 w75 =>
              GuardP t101 true (fun (k47 : N1) => Run Try.prog (binSem Go.BinOp.neq 115 (Go.Operand.tmp 108) (Go.Operand.tmp 109) t108 t109) w75 k47) w75 fun t110 w76 =>
              GuardP t92 false (fun (k48 : N1) => PickP t101 t110 (Go.Value.bool false) w76 k48) w76 fun t111 w77 =>
              PickP t92 (Go.Value.bool true) t111 w77 fun t112 w78 =>
              CondP t112 1 (fun (k49 : N1) =>
                R (Go.Value.bool false) w78)
              (fun (k50 : N1) =>
                k50 t2 w78)
              (fun (t2 : Value) (w79 : World) => 
              k30 t2 w79))
            (fun (t2 : Value) (w80 : World) => 
            Run Try.prog (binSem Go.BinOp.add 3 (Go.Operand.tmp 79) (Go.Operand.const (Go.Value.int Go.IntKind.i64 1)) i_10 (Go.Value.int Go.IntKind.i64 1)) w80 fun t80 w81 =>
            k27 t2 t80 w81))))
          [t2, (Go.Value.int Go.IntKind.i64 0)] w47)
        (fun (t2 : Value) (i_10 : Value) (w82 : World) => 
        k25 t2 w82))
      (fun (t2 : Value) (w83 : World) => 
      Run Try.prog (binSem Go.BinOp.add 3 (Go.Operand.tmp 70) (Go.Operand.const (Go.Value.int Go.IntKind.i64 1)) k_9 (Go.Value.int Go.IntKind.i64 1)) w83 fun t71 w84 =>
      k22 t2 t71 w84))))
    [(Go.Value.bool false), (Go.Value.int Go.IntKind.i64 0)] w43)
  (fun (t2 : Value) (k_9 : Value) (w85 : World) => 
  R (Go.Value.bool true) w85)))
theorem S34_eq (ls_0 : Value) (w : World) (R : Value → World → Prop) : vcFn Try.prog Try.f34 [ls_0] w R = S34 ls_0 w R := by kernel_rfl
theorem D34 {ls_0 : Value} {w : World} {R : Value → World → Prop} (h : S34 ls_0 w R) : Does Try.prog 34 [ls_0] w R :=
  does_of_vc mixed Try.func34 (by kernel_rfl) (by kernel_rfl) ((S34_eq ls_0 w R).mpr h)

/-- busbar/busbarkit.ApartTokens -/
def S35 (ls_0 : Value) (w : World) (R : Value → World → Prop) : Prop :=
  JoinP 1 (fun (k1 : N1) =>
    LoopP 1 (fun (k2 : N1) => (fun (k_3 : Value) (w1 : World) => 
      Run Try.prog (Builtin.len_ #[42] 3 #[ls_0]) w1 fun t14 w2 =>
      Run Try.prog (binSem Go.BinOp.lss 3 (Go.Operand.tmp 12) (Go.Operand.tmp 14) k_3 t14) w2 fun t15 w3 =>
      CondP t15 0 (fun (k3 : N0) =>
        k3 w3)
      (fun (k4 : N0) =>
        k1 k_3 w3)
      (fun (w4 : World) => 
      JoinP 0 (fun (k5 : N0) =>
        JoinP 1 (fun (k6 : N1) =>
          LoopP 1 (fun (k7 : N1) => (fun (i_4 : Value) (w5 : World) => 
            Run Try.prog (Instr.indexAt 42 ls_0 k_3) w5 fun t21 w6 =>
            Run Try.prog (Instr.loadAt 133 t21) w6 fun t22 w7 =>
            Run Try.prog (Builtin.len_ #[133] 3 #[t22]) w7 fun t23 w8 =>
            Run Try.prog (binSem Go.BinOp.lss 3 (Go.Operand.tmp 18) (Go.Operand.tmp 23) i_4 t23) w8 fun t24 w9 =>
            CondP t24 0 (fun (k8 : N0) =>
              k8 w9)
            (fun (k9 : N0) =>
              k6 i_4 w9)
            (fun (w10 : World) => 
            JoinP 0 (fun (k10 : N0) =>
              ∀ w11, Ext w10 w11 →
              RunQ Try.prog (Instr.indexAt 42 ls_0 k_3) w11 fun t29 =>
              RunQ Try.prog (Instr.loadAt 133 t29) w11 fun t30 =>
              GoN Try.prog (callFunc 66 #[k_3, i_4]) w11 fun t34 w12 => Ext w11 w12 ∧
              RunQ Try.prog (Instr.indexAt 133 t30 i_4) w11 fun t35 =>
              RunU Try.prog (Instr.storeAt 135 t35 t34) w12 fun w13 =>
              k10 w13)
            (fun (w14 : World) => 
            Run Try.prog (binSem Go.BinOp.add 3 (Go.Operand.tmp 25) (Go.Operand.const (Go.Value.int Go.IntKind.i64 1)) i_4 (Go.Value.int Go.IntKind.i64 1)) w14 fun t26 w15 =>
            k7 t26 w15))))
          [(Go.Value.int Go.IntKind.i64 0)] w4)
        (fun (i_4 : Value) (w16 : World) => 
        k5 w16))
      (fun (w17 : World) => 
      Run Try.prog (binSem Go.BinOp.add 3 (Go.Operand.tmp 16) (Go.Operand.const (Go.Value.int Go.IntKind.i64 1)) k_3 (Go.Value.int Go.IntKind.i64 1)) w17 fun t17 w18 =>
      k2 t17 w18))))
    [(Go.Value.int Go.IntKind.i64 0)] w)
  (fun (k_3 : Value) (w19 : World) => 
  JoinP 2 (fun (k11 : N2) =>
    LoopP 2 (fun (k12 : N2) => (fun (gs_5 : Value) (k_6 : Value) (w20 : World) => 
      Run Try.prog (Builtin.len_ #[42] 3 #[ls_0]) w20 fun t38 w21 =>
      Run Try.prog (binSem Go.BinOp.lss 3 (Go.Operand.tmp 36) (Go.Operand.tmp 38) k_6 t38) w21 fun t39 w22 =>
      CondP t39 0 (fun (k13 : N0) =>
        k13 w22)
      (fun (k14 : N0) =>
        k11 gs_5 k_6 w22)
      (fun (w23 : World) => 
      JoinP 1 (fun (k15 : N1) =>
        Run Try.prog (Instr.indexAt 42 ls_0 k_6) w23 fun t44 w24 =>
        Run Try.prog (Instr.loadAt 133 t44) w24 fun t45 w25 =>
        JoinP 2 (fun (k16 : N2) =>
          LoopP 2 (fun (k17 : N2) => (fun (g_7 : Value) (i_8 : Value) (w26 : World) => 
            Run Try.prog (binSem Go.BinOp.lss 3 (Go.Operand.tmp 46) (Go.Operand.const (Go.Value.int Go.IntKind.i64 64)) i_8 (Go.Value.int Go.IntKind.i64 64)) w26 fun t47 w27 =>
            CondP t47 0 (fun (k18 : N0) =>
              k18 w27)
            (fun (k19 : N0) =>
              k16 g_7 i_8 w27)
            (fun (w28 : World) => 
            JoinP 1 (fun (k20 : N1) =>
              Run Try.prog (Instr.indexAt 42 ls_0 k_6) w28 fun t54 w29 =>
              Run Try.prog (Instr.loadAt 133 t54) w29 fun t55 w30 =>
              Run Try.prog (Builtin.len_ #[133] 3 #[t55]) w30 fun t56 w31 =>
              Run Try.prog (binSem Go.BinOp.add 3 (Go.Operand.tmp 56) (Go.Operand.tmp 57) t56 i_8) w31 fun t58 w32 =>
              GoN Try.prog (callFunc 66 #[k_6, t58]) w32 fun t59 w33 =>
              Run Try.prog (Instr.buildSlice 133 1 #[(0, t59)]) w33 fun t60 w34 =>
              Run Try.prog (Builtin.append_ #[133, 133] 133 #[g_7, t60]) w34 fun t61 w35 =>
              k20 t61 w35)
            (fun (g_7 : Value) (w36 : World) => 
            Run Try.prog (binSem Go.BinOp.add 3 (Go.Operand.tmp 48) (Go.Operand.const (Go.Value.int Go.IntKind.i64 1)) i_8 (Go.Value.int Go.IntKind.i64 1)) w36 fun t49 w37 =>
            k17 g_7 t49 w37))))
          [t45, (Go.Value.int Go.IntKind.i64 0)] w25)
        (fun (g_7 : Value) (i_8 : Value) (w38 : World) => 
        Run Try.prog (Instr.buildSlice 42 1 #[(0, g_7)]) w38 fun t64 w39 =>
        Run Try.prog (Builtin.append_ #[42, 42] 42 #[gs_5, t64]) w39 fun t65 w40 =>
        k15 t65 w40))
      (fun (gs_5 : Value) (w41 : World) => 
      Run Try.prog (binSem Go.BinOp.add 3 (Go.Operand.tmp 40) (Go.Operand.const (Go.Value.int Go.IntKind.i64 1)) k_6 (Go.Value.int Go.IntKind.i64 1)) w41 fun t41 w42 =>
      k12 gs_5 t41 w42))))
    [(Go.Value.slice none 0 0), (Go.Value.int Go.IntKind.i64 0)] w19)
  (fun (gs_5 : Value) (k_6 : Value) (w43 : World) => 
  JoinP 2 (fun (k21 : N2) =>
    LoopP 2 (fun (k22 : N2) => (fun (t2 : Value) (k_9 : Value) (w44 : World) => 
      Run Try.prog (Builtin.len_ #[42] 3 #[ls_0]) w44 fun t68 w45 =>
      Run Try.prog (binSem Go.BinOp.lss 3 (Go.Operand.tmp 66) (Go.Operand.tmp 68) k_9 t68) w45 fun t69 w46 =>
      CondP t69 0 (fun (k23 : N0) =>
        k23 w46)
      (fun (k24 : N0) =>
        k21 t2 k_9 w46)
      (fun (w47 : World) => 
      JoinP 1 (fun (k25 : N1) =>
        JoinP 2 (fun (k26 : N2) =>
          LoopP 2 (fun (k27 : N2) => (fun (t2 : Value) (i_10 : Value) (w48 : World) => 
            Run Try.prog (Instr.indexAt 42 gs_5 k_9) w48 fun t75 w49 =>
            Run Try.prog (Instr.loadAt 133 t75) w49 fun t76 w50 =>
            Run Try.prog (Builtin.len_ #[133] 3 #[t76]) w50 fun t77 w51 =>
            Run Try.prog (binSem Go.BinOp.lss 3 (Go.Operand.tmp 72) (Go.Operand.tmp 77) i_10 t77) w51 fun t78 w52 =>
            CondP t78 0 (fun (k28 : N0) =>
              k28 w52)
            (fun (k29 : N0) =>
              k26 t2 i_10 w52)
            (fun (w53 : World) => 
            JoinP 1 (fun (k30 : N1) =>
              GoN Try.prog (callFunc 66 #[k_9, i_10]) w53 fun t83 w54 =>
              Run Try.prog (Instr.alloc 135 true (.tuple #[])) w54 fun want_11 w55 =>
              RunU Try.prog (Instr.storeAt 135 want_11 t83) w55 fun w56 =>
              ∀ w57, Ext w56 w57 →
              RunQ Try.prog (Instr.indexAt 42 gs_5 k_9) w57 fun t86 =>
              RunQ Try.prog (Instr.loadAt 133 t86) w57 fun t87 =>
              RunQ Try.prog (Instr.indexAt 133 t87 i_10) w57 fun t89 =>
              RunQ Try.prog (Instr.loadAt 135 t89) w57 fun t90 =>
              RunQ Try.prog (Instr.loadAt 135 want_11) w57 fun t91 =>
              RunQ Try.prog (binSem Go.BinOp.neq 135 (Go.Operand.tmp 90) (Go.Operand.tmp 91) t90 t91) w57 fun t92 =>
              GuardQ t92 false (fun (k31 : Value → Prop) => k31 i_10) fun t94 =>
              GuardQ t92 false (fun (k32 : Value → Prop) => k32 ls_0) fun t95 =>
              GuardQ t92 false (fun (k33 : Value → Prop) => k33 k_9) fun t96 =>
              GuardQ t92 false (fun (k34 : Value → Prop) => RunQ Try.prog (Instr.indexAt 42 t95 t96) w57 k34) fun t97 =>
              GuardQ t92 false (fun (k35 : Value → Prop) => RunQ Try.prog (Instr.loadAt 133 t97) w57 k35) fun t98 =>
              GuardQ t92 false (fun (k36 : Value → Prop) => RunQ Try.prog (Builtin.len_ #[133] 3 #[t98]) w57 k36) fun t99 =>
              GuardQ t92 false (fun (k37 : Value → Prop) => RunQ Try.prog (binSem Go.BinOp.lss 3 (Go.Operand.tmp 94) (Go.Operand.tmp 99) t94 t99) w57 k37) fun t100 =>
              GuardQ t92 false (fun (k38 : Value → Prop) => k38 t100) fun t101 =>
              GuardQ t101 true (fun (k39 : Value → Prop) => k39 ls_0) fun t102 =>
              GuardQ t101 true (fun (k40 : Value → Prop) => k40 k_9) fun t103 =>
              GuardQ t101 true (fun (k41 : Value → Prop) => RunQ Try.prog (Instr.indexAt 42 t102 t103) w57 k41) fun t104 =>
              GuardQ t101 true (fun (k42 : Value → Prop) => RunQ Try.prog (Instr.loadAt 133 t104) w57 k42) fun t105 =>
              GuardQ t101 true (fun (k43 : Value → Prop) => k43 i_10) fun t106 =>
              GuardQ t101 true (fun (k44 : Value → Prop) => RunQ Try.prog (Instr.indexAt 133 t105 t106) w57 k44) fun t107 =>
              GuardQ t101 true (fun (k45 : Value → Prop) => RunQ Try.prog (Instr.loadAt 135 t107) w57 k45) fun t108 =>
              GuardQ t101 true (fun (k46 : Value → Prop) => RunQ Try.prog (Instr.loadAt 135 want_11) w57 k46) fun t109 =>
              GuardQ t101 true (fun (k47 : Value → Prop) => RunQ Try.prog (binSem Go.BinOp.neq 135 (Go.Operand.tmp 108) (Go.Operand.tmp 109) t108 t109) w57 k47) fun t110 =>
              GuardQ t92 false (fun (k48 : Value → Prop) => PickQ t101 t110 (Go.Value.bool false) k48) fun t111 =>
              PickQ t92 (Go.Value.bool true) t111 fun t112 =>
              CondP t112 1 (fun (k49 : N1) =>
                R (Go.Value.bool false) w57)
              (fun (k50 : N1) =>
                k50 t2 w57)
              (fun (t2 : Value) (w58 : World) => 
              k30 t2 w58))
            (fun (t2 : Value) (w59 : World) => 
            Run Try.prog (binSem Go.BinOp.add 3 (Go.Operand.tmp 79) (Go.Operand.const (Go.Value.int Go.IntKind.i64 1)) i_10 (Go.Value.int Go.IntKind.i64 1)) w59 fun t80 w60 =>
            k27 t2 t80 w60))))
          [t2, (Go.Value.int Go.IntKind.i64 0)] w47)
        (fun (t2 : Value) (i_10 : Value) (w61 : World) => 
        k25 t2 w61))
      (fun (t2 : Value) (w62 : World) => 
      Run Try.prog (binSem Go.BinOp.add 3 (Go.Operand.tmp 70) (Go.Operand.const (Go.Value.int Go.IntKind.i64 1)) k_9 (Go.Value.int Go.IntKind.i64 1)) w62 fun t71 w63 =>
      k22 t2 t71 w63))))
    [(Go.Value.bool false), (Go.Value.int Go.IntKind.i64 0)] w43)
  (fun (t2 : Value) (k_9 : Value) (w64 : World) => 
  R (Go.Value.bool true) w64)))
theorem S35_eq (ls_0 : Value) (w : World) (R : Value → World → Prop) : vcFn Try.prog Try.f35 [ls_0] w R = S35 ls_0 w R := by kernel_rfl
theorem D35 {ls_0 : Value} {w : World} {R : Value → World → Prop} (h : S35 ls_0 w R) : Does Try.prog 35 [ls_0] w R :=
  does_of_vc mixed Try.func35 (by kernel_rfl) (by kernel_rfl) ((S35_eq ls_0 w R).mpr h)

/-- busbar/busbarkit.ApartRows -/
def S36 (ls_0 : Value) (w : World) (R : Value → World → Prop) : Prop :=
  JoinP 1 (fun (k1 : N1) =>
    LoopP 1 (fun (k2 : N1) => (fun (k_3 : Value) (w1 : World) => 
      Run Try.prog (Builtin.len_ #[43] 3 #[ls_0]) w1 fun t14 w2 =>
      Run Try.prog (binSem Go.BinOp.lss 3 (Go.Operand.tmp 12) (Go.Operand.tmp 14) k_3 t14) w2 fun t15 w3 =>
      CondP t15 0 (fun (k3 : N0) =>
        k3 w3)
      (fun (k4 : N0) =>
        k1 k_3 w3)
      (fun (w4 : World) => 
      JoinP 0 (fun (k5 : N0) =>
        JoinP 1 (fun (k6 : N1) =>
          LoopP 1 (fun (k7 : N1) => (fun (i_4 : Value) (w5 : World) => 
            Run Try.prog (Instr.indexAt 43 ls_0 k_3) w5 fun t21 w6 =>
            Run Try.prog (Instr.loadAt 77 t21) w6 fun t22 w7 =>
            Run Try.prog (Builtin.len_ #[77] 3 #[t22]) w7 fun t23 w8 =>
            Run Try.prog (binSem Go.BinOp.lss 3 (Go.Operand.tmp 18) (Go.Operand.tmp 23) i_4 t23) w8 fun t24 w9 =>
            CondP t24 0 (fun (k8 : N0) =>
              k8 w9)
            (fun (k9 : N0) =>
              k6 i_4 w9)
            (fun (w10 : World) => 
            JoinP 0 (fun (k10 : N0) =>
              ∀ w11, Ext w10 w11 →
              RunQ Try.prog (Instr.indexAt 43 ls_0 k_3) w11 fun t29 =>
              RunQ Try.prog (Instr.loadAt 77 t29) w11 fun t30 =>
              GoN Try.prog (callFunc 67 #[k_3, i_4]) w11 fun t34 w12 => Ext w11 w12 ∧
              RunQ Try.prog (Instr.indexAt 77 t30 i_4) w11 fun t35 =>
              RunU Try.prog (Instr.storeAt 122 t35 t34) w12 fun w13 =>
              k10 w13)
            (fun (w14 : World) => 
            Run Try.prog (binSem Go.BinOp.add 3 (Go.Operand.tmp 25) (Go.Operand.const (Go.Value.int Go.IntKind.i64 1)) i_4 (Go.Value.int Go.IntKind.i64 1)) w14 fun t26 w15 =>
            k7 t26 w15))))
          [(Go.Value.int Go.IntKind.i64 0)] w4)
        (fun (i_4 : Value) (w16 : World) => 
        k5 w16))
      (fun (w17 : World) => 
      Run Try.prog (binSem Go.BinOp.add 3 (Go.Operand.tmp 16) (Go.Operand.const (Go.Value.int Go.IntKind.i64 1)) k_3 (Go.Value.int Go.IntKind.i64 1)) w17 fun t17 w18 =>
      k2 t17 w18))))
    [(Go.Value.int Go.IntKind.i64 0)] w)
  (fun (k_3 : Value) (w19 : World) => 
  JoinP 2 (fun (k11 : N2) =>
    LoopP 2 (fun (k12 : N2) => (fun (gs_5 : Value) (k_6 : Value) (w20 : World) => 
      Run Try.prog (Builtin.len_ #[43] 3 #[ls_0]) w20 fun t38 w21 =>
      Run Try.prog (binSem Go.BinOp.lss 3 (Go.Operand.tmp 36) (Go.Operand.tmp 38) k_6 t38) w21 fun t39 w22 =>
      CondP t39 0 (fun (k13 : N0) =>
        k13 w22)
      (fun (k14 : N0) =>
        k11 gs_5 k_6 w22)
      (fun (w23 : World) => 
      JoinP 1 (fun (k15 : N1) =>
        Run Try.prog (Instr.indexAt 43 ls_0 k_6) w23 fun t44 w24 =>
        Run Try.prog (Instr.loadAt 77 t44) w24 fun t45 w25 =>
        JoinP 2 (fun (k16 : N2) =>
          LoopP 2 (fun (k17 : N2) => (fun (g_7 : Value) (i_8 : Value) (w26 : World) => 
            Run Try.prog (binSem Go.BinOp.lss 3 (Go.Operand.tmp 46) (Go.Operand.const (Go.Value.int Go.IntKind.i64 64)) i_8 (Go.Value.int Go.IntKind.i64 64)) w26 fun t47 w27 =>
            CondP t47 0 (fun (k18 : N0) =>
              k18 w27)
            (fun (k19 : N0) =>
              k16 g_7 i_8 w27)
            (fun (w28 : World) => 
            JoinP 1 (fun (k20 : N1) =>
              Run Try.prog (Instr.indexAt 43 ls_0 k_6) w28 fun t54 w29 =>
              Run Try.prog (Instr.loadAt 77 t54) w29 fun t55 w30 =>
              Run Try.prog (Builtin.len_ #[77] 3 #[t55]) w30 fun t56 w31 =>
              Run Try.prog (binSem Go.BinOp.add 3 (Go.Operand.tmp 56) (Go.Operand.tmp 57) t56 i_8) w31 fun t58 w32 =>
              GoN Try.prog (callFunc 67 #[k_6, t58]) w32 fun t59 w33 =>
              Run Try.prog (Instr.buildSlice 77 1 #[(0, t59)]) w33 fun t60 w34 =>
              Run Try.prog (Builtin.append_ #[77, 77] 77 #[g_7, t60]) w34 fun t61 w35 =>
              k20 t61 w35)
            (fun (g_7 : Value) (w36 : World) => 
            Run Try.prog (binSem Go.BinOp.add 3 (Go.Operand.tmp 48) (Go.Operand.const (Go.Value.int Go.IntKind.i64 1)) i_8 (Go.Value.int Go.IntKind.i64 1)) w36 fun t49 w37 =>
            k17 g_7 t49 w37))))
          [t45, (Go.Value.int Go.IntKind.i64 0)] w25)
        (fun (g_7 : Value) (i_8 : Value) (w38 : World) => 
        Run Try.prog (Instr.buildSlice 43 1 #[(0, g_7)]) w38 fun t64 w39 =>
        Run Try.prog (Builtin.append_ #[43, 43] 43 #[gs_5, t64]) w39 fun t65 w40 =>
        k15 t65 w40))
      (fun (gs_5 : Value) (w41 : World) => 
      Run Try.prog (binSem Go.BinOp.add 3 (Go.Operand.tmp 40) (Go.Operand.const (Go.Value.int Go.IntKind.i64 1)) k_6 (Go.Value.int Go.IntKind.i64 1)) w41 fun t41 w42 =>
      k12 gs_5 t41 w42))))
    [(Go.Value.slice none 0 0), (Go.Value.int Go.IntKind.i64 0)] w19)
  (fun (gs_5 : Value) (k_6 : Value) (w43 : World) => 
  JoinP 2 (fun (k21 : N2) =>
    LoopP 2 (fun (k22 : N2) => (fun (t2 : Value) (k_9 : Value) (w44 : World) => 
      Run Try.prog (Builtin.len_ #[43] 3 #[ls_0]) w44 fun t68 w45 =>
      Run Try.prog (binSem Go.BinOp.lss 3 (Go.Operand.tmp 66) (Go.Operand.tmp 68) k_9 t68) w45 fun t69 w46 =>
      CondP t69 0 (fun (k23 : N0) =>
        k23 w46)
      (fun (k24 : N0) =>
        k21 t2 k_9 w46)
      (fun (w47 : World) => 
      JoinP 1 (fun (k25 : N1) =>
        JoinP 2 (fun (k26 : N2) =>
          LoopP 2 (fun (k27 : N2) => (fun (t2 : Value) (i_10 : Value) (w48 : World) => 
            Run Try.prog (Instr.indexAt 43 gs_5 k_9) w48 fun t75 w49 =>
            Run Try.prog (Instr.loadAt 77 t75) w49 fun t76 w50 =>
            Run Try.prog (Builtin.len_ #[77] 3 #[t76]) w50 fun t77 w51 =>
            Run Try.prog (binSem Go.BinOp.lss 3 (Go.Operand.tmp 72) (Go.Operand.tmp 77) i_10 t77) w51 fun t78 w52 =>
            CondP t78 0 (fun (k28 : N0) =>
              k28 w52)
            (fun (k29 : N0) =>
              k26 t2 i_10 w52)
            (fun (w53 : World) => 
            JoinP 1 (fun (k30 : N1) =>
              GoN Try.prog (callFunc 67 #[k_9, i_10]) w53 fun t83 w54 =>
              Run Try.prog (Instr.alloc 122 true (.tuple #[])) w54 fun want_11 w55 =>
              RunU Try.prog (Instr.storeAt 122 want_11 t83) w55 fun w56 =>
              ∀ w57, Ext w56 w57 →
              RunQ Try.prog (Instr.indexAt 43 gs_5 k_9) w57 fun t86 =>
              RunQ Try.prog (Instr.loadAt 77 t86) w57 fun t87 =>
              RunQ Try.prog (Instr.indexAt 77 t87 i_10) w57 fun t89 =>
              RunQ Try.prog (Instr.loadAt 122 t89) w57 fun t90 =>
              RunQ Try.prog (Instr.loadAt 122 want_11) w57 fun t91 =>
              RunQ Try.prog (binSem Go.BinOp.neq 122 (Go.Operand.tmp 90) (Go.Operand.tmp 91) t90 t91) w57 fun t92 =>
              GuardQ t92 false (fun (k31 : Value → Prop) => k31 i_10) fun t94 =>
              GuardQ t92 false (fun (k32 : Value → Prop) => k32 ls_0) fun t95 =>
              GuardQ t92 false (fun (k33 : Value → Prop) => k33 k_9) fun t96 =>
              GuardQ t92 false (fun (k34 : Value → Prop) => RunQ Try.prog (Instr.indexAt 43 t95 t96) w57 k34) fun t97 =>
              GuardQ t92 false (fun (k35 : Value → Prop) => RunQ Try.prog (Instr.loadAt 77 t97) w57 k35) fun t98 =>
              GuardQ t92 false (fun (k36 : Value → Prop) => RunQ Try.prog (Builtin.len_ #[77] 3 #[t98]) w57 k36) fun t99 =>
              GuardQ t92 false (fun (k37 : Value → Prop) => RunQ Try.prog (binSem Go.BinOp.lss 3 (Go.Operand.tmp 94) (Go.Operand.tmp 99) t94 t99) w57 k37) fun t100 =>
              GuardQ t92 false (fun (k38 : Value → Prop) => k38 t100) fun t101 =>
              GuardQ t101 true (fun (k39 : Value → Prop) => k39 ls_0) fun t102 =>
              GuardQ t101 true (fun (k40 : Value → Prop) => k40 k_9) fun t103 =>
              GuardQ t101 true (fun (k41 : Value → Prop) => RunQ Try.prog (Instr.indexAt 43 t102 t103) w57 k41) fun t104 =>
              GuardQ t101 true (fun (k42 : Value → Prop) => RunQ Try.prog (Instr.loadAt 77 t104) w57 k42) fun t105 =>
              GuardQ t101 true (fun (k43 : Value → Prop) => k43 i_10) fun t106 =>
              GuardQ t101 true (fun (k44 : Value → Prop) => RunQ Try.prog (Instr.indexAt 77 t105 t106) w57 k44) fun t107 =>
              GuardQ t101 true (fun (k45 : Value → Prop) => RunQ Try.prog (Instr.loadAt 122 t107) w57 k45) fun t108 =>
              GuardQ t101 true (fun (k46 : Value → Prop) => RunQ Try.prog (Instr.loadAt 122 want_11) w57 k46) fun t109 =>
              GuardQ t101 true (fun (k47 : Value → Prop) => RunQ Try.prog (binSem Go.BinOp.neq 122 (Go.Operand.tmp 108) (Go.Operand.tmp 109) t108 t109) w57 k47) fun t110 =>
              GuardQ t92 false (fun (k48 : Value → Prop) => PickQ t101 t110 (Go.Value.bool false) k48) fun t111 =>
              PickQ t92 (Go.Value.bool true) t111 fun t112 =>
              CondP t112 1 (fun (k49 : N1) =>
                R (Go.Value.bool false) w57)
              (fun (k50 : N1) =>
                k50 t2 w57)
              (fun (t2 : Value) (w58 : World) => 
              k30 t2 w58))
            (fun (t2 : Value) (w59 : World) => 
            Run Try.prog (binSem Go.BinOp.add 3 (Go.Operand.tmp 79) (Go.Operand.const (Go.Value.int Go.IntKind.i64 1)) i_10 (Go.Value.int Go.IntKind.i64 1)) w59 fun t80 w60 =>
            k27 t2 t80 w60))))
          [t2, (Go.Value.int Go.IntKind.i64 0)] w47)
        (fun (t2 : Value) (i_10 : Value) (w61 : World) => 
        k25 t2 w61))
      (fun (t2 : Value) (w62 : World) => 
      Run Try.prog (binSem Go.BinOp.add 3 (Go.Operand.tmp 70) (Go.Operand.const (Go.Value.int Go.IntKind.i64 1)) k_9 (Go.Value.int Go.IntKind.i64 1)) w62 fun t71 w63 =>
      k22 t2 t71 w63))))
    [(Go.Value.bool false), (Go.Value.int Go.IntKind.i64 0)] w43)
  (fun (t2 : Value) (k_9 : Value) (w64 : World) => 
  R (Go.Value.bool true) w64)))
theorem S36_eq (ls_0 : Value) (w : World) (R : Value → World → Prop) : vcFn Try.prog Try.f36 [ls_0] w R = S36 ls_0 w R := by kernel_rfl
theorem D36 {ls_0 : Value} {w : World} {R : Value → World → Prop} (h : S36 ls_0 w R) : Does Try.prog 36 [ls_0] w R :=
  does_of_vc mixed Try.func36 (by kernel_rfl) (by kernel_rfl) ((S36_eq ls_0 w R).mpr h)

end Go.Proofs.Ytmgleeoecdodjaa.Sh
