/- The conditions of functions, printed by a program off the loaded code and held against it by the kernel. Conditions: none. -/
import Derived.Test.YtmgleeoecdodjaaDoorV5
import Derived.Test.YtmgleeoecdodjaaDoorProg
set_option linter.unusedVariables false
set_option maxRecDepth 100000
namespace Go.Proofs.YtmgleeoecdodjaaDoor.Sh
open Go Go.V
theorem mixed : Tryd.prog.follows .mixedOrders = true := by kernel_rfl
/-- busbar/busbarkit.markBytes -/
def S57 (k_0 i_1 : Value) (w : World) (R : Value → World → Prop) : Prop :=
  Run Tryd.prog (binSem Go.BinOp.add 3 (Go.Operand.tmp 5) (Go.Operand.const (Go.Value.int Go.IntKind.i64 1)) k_0 (Go.Value.int Go.IntKind.i64 1)) w fun t6 w1 =>
  Run Tryd.prog (binSem Go.BinOp.mul 3 (Go.Operand.const (Go.Value.int Go.IntKind.i64 37)) (Go.Operand.tmp 6) (Go.Value.int Go.IntKind.i64 37) t6) w1 fun t7 w2 =>
  Run Tryd.prog (binSem Go.BinOp.add 3 (Go.Operand.tmp 7) (Go.Operand.tmp 8) t7 i_1) w2 fun t9 w3 =>
  Run Tryd.prog (convert 3 5 t9) w3 fun t10 w4 =>
  R t10 w4
theorem S57_eq (k_0 i_1 : Value) (w : World) (R : Value → World → Prop) : vcFn Tryd.prog Tryd.f57 [k_0, i_1] w R = S57 k_0 i_1 w R := by kernel_rfl
theorem D57 {k_0 i_1 : Value} {w : World} {R : Value → World → Prop} (h : S57 k_0 i_1 w R) : Does Tryd.prog 57 [k_0, i_1] w R :=
  does_of_vc mixed Tryd.func57 (by kernel_rfl) (by kernel_rfl) ((S57_eq k_0 i_1 w R).mpr h)

/-- busbar/busbarkit.markTexts -/
def S58 (k_0 i_1 : Value) (w : World) (R : Value → World → Prop) : Prop :=
  GoN Tryd.prog (callFunc 66 #[k_0, i_1]) w fun t7 w1 =>
  R t7 w1
theorem S58_eq (k_0 i_1 : Value) (w : World) (R : Value → World → Prop) : vcFn Tryd.prog Tryd.f58 [k_0, i_1] w R = S58 k_0 i_1 w R := by kernel_rfl
theorem D58 {k_0 i_1 : Value} {w : World} {R : Value → World → Prop} (h : S58 k_0 i_1 w R) : Does Tryd.prog 58 [k_0, i_1] w R :=
  does_of_vc mixed Tryd.func58 (by kernel_rfl) (by kernel_rfl) ((S58_eq k_0 i_1 w R).mpr h)

/-- busbar/busbarkit.markInts -/
def S59 (k_0 i_1 : Value) (w : World) (R : Value → World → Prop) : Prop :=
  Run Tryd.prog (binSem Go.BinOp.add 3 (Go.Operand.tmp 5) (Go.Operand.const (Go.Value.int Go.IntKind.i64 1)) k_0 (Go.Value.int Go.IntKind.i64 1)) w fun t6 w1 =>
  Run Tryd.prog (binSem Go.BinOp.mul 3 (Go.Operand.const (Go.Value.int Go.IntKind.i64 (-1000000))) (Go.Operand.tmp 6) (Go.Value.int Go.IntKind.i64 (-1000000)) t6) w1 fun t7 w2 =>
  Run Tryd.prog (binSem Go.BinOp.sub 3 (Go.Operand.tmp 7) (Go.Operand.tmp 8) t7 i_1) w2 fun t9 w3 =>
  R t9 w3
theorem S59_eq (k_0 i_1 : Value) (w : World) (R : Value → World → Prop) : vcFn Tryd.prog Tryd.f59 [k_0, i_1] w R = S59 k_0 i_1 w R := by kernel_rfl
theorem D59 {k_0 i_1 : Value} {w : World} {R : Value → World → Prop} (h : S59 k_0 i_1 w R) : Does Tryd.prog 59 [k_0, i_1] w R :=
  does_of_vc mixed Tryd.func59 (by kernel_rfl) (by kernel_rfl) ((S59_eq k_0 i_1 w R).mpr h)

/-- busbar/busbarkit.markNumbers -/
def S60 (k_0 i_1 : Value) (w : World) (R : Value → World → Prop) : Prop :=
  Run Tryd.prog (binSem Go.BinOp.add 3 (Go.Operand.tmp 5) (Go.Operand.const (Go.Value.int Go.IntKind.i64 1)) k_0 (Go.Value.int Go.IntKind.i64 1)) w fun t6 w1 =>
  Run Tryd.prog (convert 3 126 t6) w1 fun t7 w2 =>
  Run Tryd.prog (binSem Go.BinOp.mul 126 (Go.Operand.const (Go.Value.int Go.IntKind.u64 1000000)) (Go.Operand.tmp 7) (Go.Value.int Go.IntKind.u64 1000000) t7) w2 fun t8 w3 =>
  Run Tryd.prog (binSem Go.BinOp.add 126 (Go.Operand.const (Go.Value.int Go.IntKind.u64 9223372036854775808)) (Go.Operand.tmp 8) (Go.Value.int Go.IntKind.u64 9223372036854775808) t8) w3 fun t9 w4 =>
  Run Tryd.prog (convert 3 126 i_1) w4 fun t11 w5 =>
  Run Tryd.prog (binSem Go.BinOp.add 126 (Go.Operand.tmp 9) (Go.Operand.tmp 11) t9 t11) w5 fun t12 w6 =>
  R t12 w6
theorem S60_eq (k_0 i_1 : Value) (w : World) (R : Value → World → Prop) : vcFn Tryd.prog Tryd.f60 [k_0, i_1] w R = S60 k_0 i_1 w R := by kernel_rfl
theorem D60 {k_0 i_1 : Value} {w : World} {R : Value → World → Prop} (h : S60 k_0 i_1 w R) : Does Tryd.prog 60 [k_0, i_1] w R :=
  does_of_vc mixed Tryd.func60 (by kernel_rfl) (by kernel_rfl) ((S60_eq k_0 i_1 w R).mpr h)

/-- busbar/busbarkit.markTokens -/
def S61 (k_0 i_1 : Value) (w : World) (R : Value → World → Prop) : Prop :=
  Run Tryd.prog (Instr.alloc 147 true (.tuple #[])) w fun t4 w1 =>
  GoN Tryd.prog (callFunc 66 #[k_0, i_1]) w1 fun t7 w2 =>
  Run Tryd.prog (Instr.build 147 #[(0, (Go.Value.int Go.IntKind.i64 (-7))), (1, t7)]) w2 fun t8 w3 =>
  RunU Tryd.prog (Instr.storeAt 147 t4 t8) w3 fun w4 =>
  resK Tryd.prog t4 147 w4 fun r0 =>
  R r0 w4
theorem S61_eq (k_0 i_1 : Value) (w : World) (R : Value → World → Prop) : vcFn Tryd.prog Tryd.f61 [k_0, i_1] w R = S61 k_0 i_1 w R := by kernel_rfl
theorem D61 {k_0 i_1 : Value} {w : World} {R : Value → World → Prop} (h : S61 k_0 i_1 w R) : Does Tryd.prog 61 [k_0, i_1] w R :=
  does_of_vc mixed Tryd.func61 (by kernel_rfl) (by kernel_rfl) ((S61_eq k_0 i_1 w R).mpr h)

/-- busbar/busbarkit.markRows -/
def S62 (k_0 i_1 : Value) (w : World) (R : Value → World → Prop) : Prop :=
  Run Tryd.prog (Instr.alloc 133 true (.tuple #[])) w fun t4 w1 =>
  GoN Tryd.prog (callFunc 66 #[k_0, i_1]) w1 fun t7 w2 =>
  Run Tryd.prog (Instr.build 133 #[(0, (Go.Value.int Go.IntKind.i64 (-7))), (1, t7)]) w2 fun t8 w3 =>
  RunU Tryd.prog (Instr.storeAt 133 t4 t8) w3 fun w4 =>
  resK Tryd.prog t4 133 w4 fun r0 =>
  R r0 w4
theorem S62_eq (k_0 i_1 : Value) (w : World) (R : Value → World → Prop) : vcFn Tryd.prog Tryd.f62 [k_0, i_1] w R = S62 k_0 i_1 w R := by kernel_rfl
theorem D62 {k_0 i_1 : Value} {w : World} {R : Value → World → Prop} (h : S62 k_0 i_1 w R) : Does Tryd.prog 62 [k_0, i_1] w R :=
  does_of_vc mixed Tryd.func62 (by kernel_rfl) (by kernel_rfl) ((S62_eq k_0 i_1 w R).mpr h)

/-- busbar/busbarkit.markInstrs -/
def S63 (k_0 i_1 : Value) (w : World) (R : Value → World → Prop) : Prop :=
  Run Tryd.prog (Instr.alloc 152 true (.tuple #[])) w fun t4 w1 =>
  Run Tryd.prog (binSem Go.BinOp.sub 3 (Go.Operand.const (Go.Value.int Go.IntKind.i64 (-7))) (Go.Operand.tmp 5) (Go.Value.int Go.IntKind.i64 (-7)) k_0) w1 fun t6 w2 =>
  Run Tryd.prog (convert 3 126 i_1) w2 fun t8 w3 =>
  Run Tryd.prog (Instr.build 152 #[(0, t6), (4, t8)]) w3 fun t9 w4 =>
  RunU Tryd.prog (Instr.storeAt 152 t4 t9) w4 fun w5 =>
  resK Tryd.prog t4 152 w5 fun r0 =>
  R r0 w5
theorem S63_eq (k_0 i_1 : Value) (w : World) (R : Value → World → Prop) : vcFn Tryd.prog Tryd.f63 [k_0, i_1] w R = S63 k_0 i_1 w R := by kernel_rfl
theorem D63 {k_0 i_1 : Value} {w : World} {R : Value → World → Prop} (h : S63 k_0 i_1 w R) : Does Tryd.prog 63 [k_0, i_1] w R :=
  does_of_vc mixed Tryd.func63 (by kernel_rfl) (by kernel_rfl) ((S63_eq k_0 i_1 w R).mpr h)

/-- busbar/busbarkit.markRules -/
def S64 (k_0 i_1 : Value) (w : World) (R : Value → World → Prop) : Prop :=
  Run Tryd.prog (Instr.alloc 156 true (.tuple #[])) w fun t4 w1 =>
  Run Tryd.prog (convert 3 74 k_0) w1 fun t6 w2 =>
  Run Tryd.prog (convert 3 74 i_1) w2 fun t8 w3 =>
  Run Tryd.prog (Instr.build 156 #[(1, t6), (2, t8)]) w3 fun t9 w4 =>
  RunU Tryd.prog (Instr.storeAt 156 t4 t9) w4 fun w5 =>
  resK Tryd.prog t4 156 w5 fun r0 =>
  R r0 w5
theorem S64_eq (k_0 i_1 : Value) (w : World) (R : Value → World → Prop) : vcFn Tryd.prog Tryd.f64 [k_0, i_1] w R = S64 k_0 i_1 w R := by kernel_rfl
theorem D64 {k_0 i_1 : Value} {w : World} {R : Value → World → Prop} (h : S64 k_0 i_1 w R) : Does Tryd.prog 64 [k_0, i_1] w R :=
  does_of_vc mixed Tryd.func64 (by kernel_rfl) (by kernel_rfl) ((S64_eq k_0 i_1 w R).mpr h)

/-- busbar/busbarkit.markValues -/
def S65 (k_0 i_1 : Value) (w : World) (R : Value → World → Prop) : Prop :=
  Run Tryd.prog (Instr.alloc 160 true (.tuple #[])) w fun t4 w1 =>
  GoN Tryd.prog (callFunc 66 #[k_0, i_1]) w1 fun t7 w2 =>
  Run Tryd.prog (Instr.build 160 #[(1, (Go.Value.int Go.IntKind.u64 1)), (0, t7)]) w2 fun t8 w3 =>
  RunU Tryd.prog (Instr.storeAt 160 t4 t8) w3 fun w4 =>
  resK Tryd.prog t4 160 w4 fun r0 =>
  R r0 w4
theorem S65_eq (k_0 i_1 : Value) (w : World) (R : Value → World → Prop) : vcFn Tryd.prog Tryd.f65 [k_0, i_1] w R = S65 k_0 i_1 w R := by kernel_rfl
theorem D65 {k_0 i_1 : Value} {w : World} {R : Value → World → Prop} (h : S65 k_0 i_1 w R) : Does Tryd.prog 65 [k_0, i_1] w R :=
  does_of_vc mixed Tryd.func65 (by kernel_rfl) (by kernel_rfl) ((S65_eq k_0 i_1 w R).mpr h)

/-- busbar/busbarkit.MarkText -/
def S66 (k_0 i_1 : Value) (w : World) (R : Value → World → Prop) : Prop :=
  Run Tryd.prog (convert 3 5 k_0) w fun t6 w1 =>
  Run Tryd.prog (binSem Go.BinOp.shr 3 (Go.Operand.tmp 7) (Go.Operand.const (Go.Value.int Go.IntKind.u64 8)) k_0 (Go.Value.int Go.IntKind.u64 8)) w1 fun t8 w2 =>
  Run Tryd.prog (convert 3 5 t8) w2 fun t9 w3 =>
  Run Tryd.prog (convert 3 5 i_1) w3 fun t11 w4 =>
  Run Tryd.prog (binSem Go.BinOp.shr 3 (Go.Operand.tmp 12) (Go.Operand.const (Go.Value.int Go.IntKind.u64 8)) i_1 (Go.Value.int Go.IntKind.u64 8)) w4 fun t13 w5 =>
  Run Tryd.prog (convert 3 5 t13) w5 fun t14 w6 =>
  Run Tryd.prog (Instr.buildSlice 140 5 #[(0, (Go.Value.int Go.IntKind.u8 35)), (1, t6), (2, t9), (3, t11), (4, t14)]) w6 fun t15 w7 =>
  Run Tryd.prog (convert 140 9 t15) w7 fun t16 w8 =>
  R t16 w8
theorem S66_eq (k_0 i_1 : Value) (w : World) (R : Value → World → Prop) : vcFn Tryd.prog Tryd.f66 [k_0, i_1] w R = S66 k_0 i_1 w R := by kernel_rfl
theorem D66 {k_0 i_1 : Value} {w : World} {R : Value → World → Prop} (h : S66 k_0 i_1 w R) : Does Tryd.prog 66 [k_0, i_1] w R :=
  does_of_vc mixed Tryd.func66 (by kernel_rfl) (by kernel_rfl) ((S66_eq k_0 i_1 w R).mpr h)

/-- busbar/busbarref0.SameSignal -/
def S67 (a_0 b_1 : Value) (w : World) (R : Value → World → Prop) : Prop :=
  Run Tryd.prog (Instr.box 130 a_0) w fun a_2 w1 =>
  Run Tryd.prog (Instr.box 130 b_1) w1 fun b_3 w2 =>
  Run Tryd.prog (Instr.fieldAt 130 a_2 0) w2 fun t5 w3 =>
  Run Tryd.prog (Instr.loadAt 23 t5) w3 fun t6 w4 =>
  Run Tryd.prog (Instr.fieldAt 130 b_3 0) w4 fun t7 w5 =>
  Run Tryd.prog (Instr.loadAt 23 t7) w5 fun t8 w6 =>
  Run Tryd.prog (binSem Go.BinOp.eql 23 (Go.Operand.tmp 6) (Go.Operand.tmp 8) t6 t8) w6 fun t9 w7 =>
  GuardP t9 true (fun (k1 : N1) => Run Tryd.prog (Instr.fieldAt 130 a_2 1) w7 k1) w7 fun t11 w8 =>
  GuardP t9 true (fun (k2 : N1) => Run Tryd.prog (Instr.loadAt 9 t11) w8 k2) w8 fun t12 w9 =>
  GuardP t9 true (fun (k3 : N1) => Run Tryd.prog (Instr.fieldAt 130 b_3 1) w9 k3) w9 fun t13 w10 =>
  GuardP t9 true (fun (k4 : N1) => Run Tryd.prog (Instr.loadAt 9 t13) w10 k4) w10 fun t14 w11 =>
  GuardP t9 true (fun (k5 : N1) => Run Tryd.prog (binSem Go.BinOp.eql 9 (Go.Operand.tmp 12) (Go.Operand.tmp 14) t12 t14) w11 k5) w11 fun t15 w12 =>
  PickP t9 t15 (Go.Value.bool false) w12 fun t16 w13 =>
  GuardP t16 true (fun (k6 : N1) => Run Tryd.prog (Instr.fieldAt 130 a_2 2) w13 k6) w13 fun t18 w14 =>
  GuardP t16 true (fun (k7 : N1) => Run Tryd.prog (Instr.loadAt 3 t18) w14 k7) w14 fun t19 w15 =>
  GuardP t16 true (fun (k8 : N1) => Run Tryd.prog (Instr.fieldAt 130 b_3 2) w15 k8) w15 fun t20 w16 =>
  GuardP t16 true (fun (k9 : N1) => Run Tryd.prog (Instr.loadAt 3 t20) w16 k9) w16 fun t21 w17 =>
  GuardP t16 true (fun (k10 : N1) => Run Tryd.prog (binSem Go.BinOp.eql 3 (Go.Operand.tmp 19) (Go.Operand.tmp 21) t19 t21) w17 k10) w17 fun t22 w18 =>
  PickP t16 t22 (Go.Value.bool false) w18 fun t23 w19 =>
  GuardP t23 true (fun (k11 : N1) => Run Tryd.prog (Instr.fieldAt 130 a_2 3) w19 k11) w19 fun t25 w20 =>
  GuardP t23 true (fun (k12 : N1) => Run Tryd.prog (Instr.loadAt 126 t25) w20 k12) w20 fun t26 w21 =>
  GuardP t23 true (fun (k13 : N1) => Run Tryd.prog (Instr.fieldAt 130 b_3 3) w21 k13) w21 fun t27 w22 =>
  GuardP t23 true (fun (k14 : N1) => Run Tryd.prog (Instr.loadAt 126 t27) w22 k14) w22 fun t28 w23 =>
  GuardP t23 true (fun (k15 : N1) => Run Tryd.prog (binSem Go.BinOp.eql 126 (Go.Operand.tmp 26) (Go.Operand.tmp 28) t26 t28) w23 k15) w23 fun t29 w24 =>
  PickP t23 t29 (Go.Value.bool false) w24 fun t30 w25 =>
  GuardP t30 true (fun (k16 : N1) => Run Tryd.prog (Instr.fieldAt 130 a_2 4) w25 k16) w25 fun t32 w26 =>
  GuardP t30 true (fun (k17 : N1) => Run Tryd.prog (Instr.loadAt 3 t32) w26 k17) w26 fun t33 w27 =>
  GuardP t30 true (fun (k18 : N1) => Run Tryd.prog (Instr.fieldAt 130 b_3 4) w27 k18) w27 fun t34 w28 =>
  GuardP t30 true (fun (k19 : N1) => Run Tryd.prog (Instr.loadAt 3 t34) w28 k19) w28 fun t35 w29 =>
  GuardP t30 true (fun (k20 : N1) => Run Tryd.prog (binSem Go.BinOp.eql 3 (Go.Operand.tmp 33) (Go.Operand.tmp 35) t33 t35) w29 k20) w29 fun t36 w30 =>
  PickP t30 t36 (Go.Value.bool false) w30 fun t37 w31 =>
  GuardP t37 true (fun (k21 : N1) => Run Tryd.prog (Instr.fieldAt 130 a_2 5) w31 k21) w31 fun t39 w32 =>
  GuardP t37 true (fun (k22 : N1) => Run Tryd.prog (Instr.loadAt 3 t39) w32 k22) w32 fun t40 w33 =>
  GuardP t37 true (fun (k23 : N1) => Run Tryd.prog (Instr.fieldAt 130 b_3 5) w33 k23) w33 fun t41 w34 =>
  GuardP t37 true (fun (k24 : N1) => Run Tryd.prog (Instr.loadAt 3 t41) w34 k24) w34 fun t42 w35 =>
  GuardP t37 true (fun (k25 : N1) => Run Tryd.prog (binSem Go.BinOp.eql 3 (Go.Operand.tmp 40) (Go.Operand.tmp 42) t40 t42) w35 k25) w35 fun t43 w36 =>
  PickP t37 t43 (Go.Value.bool false) w36 fun t44 w37 =>
  GuardP t44 true (fun (k26 : N1) => Run Tryd.prog (Instr.fieldAt 130 a_2 6) w37 k26) w37 fun t46 w38 =>
  GuardP t44 true (fun (k27 : N1) => Run Tryd.prog (Instr.loadAt 4 t46) w38 k27) w38 fun t47 w39 =>
  GuardP t44 true (fun (k28 : N1) => Run Tryd.prog (Instr.fieldAt 130 b_3 6) w39 k28) w39 fun t48 w40 =>
  GuardP t44 true (fun (k29 : N1) => Run Tryd.prog (Instr.loadAt 4 t48) w40 k29) w40 fun t49 w41 =>
  GuardP t44 true (fun (k30 : N1) => Run Tryd.prog (binSem Go.BinOp.eql 4 (Go.Operand.tmp 47) (Go.Operand.tmp 49) t47 t49) w41 k30) w41 fun t50 w42 =>
  PickP t44 t50 (Go.Value.bool false) w42 fun t51 w43 =>
  GuardP t51 true (fun (k31 : N1) => Run Tryd.prog (Instr.fieldAt 130 a_2 7) w43 k31) w43 fun t53 w44 =>
  GuardP t51 true (fun (k32 : N1) => Run Tryd.prog (Instr.loadAt 4 t53) w44 k32) w44 fun t54 w45 =>
  GuardP t51 true (fun (k33 : N1) => Run Tryd.prog (Instr.fieldAt 130 b_3 7) w45 k33) w45 fun t55 w46 =>
  GuardP t51 true (fun (k34 : N1) => Run Tryd.prog (Instr.loadAt 4 t55) w46 k34) w46 fun t56 w47 =>
  GuardP t51 true (fun (k35 : N1) => Run Tryd.prog (binSem Go.BinOp.eql 4 (Go.Operand.tmp 54) (Go.Operand.tmp 56) t54 t56) w47 k35) w47 fun t57 w48 =>
  PickP t51 t57 (Go.Value.bool false) w48 fun t58 w49 =>
  GuardP t58 true (fun (k36 : N1) => Run Tryd.prog (Instr.fieldAt 130 a_2 8) w49 k36) w49 fun t60 w50 =>
  GuardP t58 true (fun (k37 : N1) => Run Tryd.prog (Instr.loadAt 128 t60) w50 k37) w50 fun t61 w51 =>
  GuardP t58 true (fun (k38 : N1) => Run Tryd.prog (Instr.fieldAt 130 b_3 8) w51 k38) w51 fun t62 w52 =>
  GuardP t58 true (fun (k39 : N1) => Run Tryd.prog (Instr.loadAt 128 t62) w52 k39) w52 fun t63 w53 =>
  GuardP t58 true (fun (k40 : N1) => Run Tryd.prog (binSem Go.BinOp.eql 128 (Go.Operand.tmp 61) (Go.Operand.tmp 63) t61 t63) w53 k40) w53 fun t64 w54 =>
  PickP t58 t64 (Go.Value.bool false) w54 fun t65 w55 =>
  GuardP t65 true (fun (k41 : N1) => Run Tryd.prog (Instr.fieldAt 130 a_2 9) w55 k41) w55 fun t67 w56 =>
  GuardP t65 true (fun (k42 : N1) => Run Tryd.prog (Instr.loadAt 128 t67) w56 k42) w56 fun t68 w57 =>
  GuardP t65 true (fun (k43 : N1) => Run Tryd.prog (Instr.fieldAt 130 b_3 9) w57 k43) w57 fun t69 w58 =>
  GuardP t65 true (fun (k44 : N1) => Run Tryd.prog (Instr.loadAt 128 t69) w58 k44) w58 fun t70 w59 =>
  GuardP t65 true (fun (k45 : N1) => Run Tryd.prog (binSem Go.BinOp.eql 128 (Go.Operand.tmp 68) (Go.Operand.tmp 70) t68 t70) w59 k45) w59 fun t71 w60 =>
  PickP t65 t71 (Go.Value.bool false) w60 fun t72 w61 =>
  GuardP t72 true (fun (k46 : N1) => Run Tryd.prog (Instr.fieldAt 130 a_2 10) w61 k46) w61 fun t74 w62 =>
  GuardP t72 true (fun (k47 : N1) => Run Tryd.prog (Instr.loadAt 128 t74) w62 k47) w62 fun t75 w63 =>
  GuardP t72 true (fun (k48 : N1) => Run Tryd.prog (Instr.fieldAt 130 b_3 10) w63 k48) w63 fun t76 w64 =>
  GuardP t72 true (fun (k49 : N1) => Run Tryd.prog (Instr.loadAt 128 t76) w64 k49) w64 fun t77 w65 =>
  GuardP t72 true (fun (k50 : N1) => Run Tryd.prog (binSem Go.BinOp.eql 128 (Go.Operand.tmp 75) (Go.Operand.tmp 77) t75 t77) w65 k50) w65 fun t78 w66 =>
  PickP t72 t78 (Go.Value.bool false) w66 fun t79 w67 =>
  GuardP t79 true (fun (k51 : N1) => Run Tryd.prog (Instr.fieldAt 130 a_2 11) w67 k51) w67 fun t81 w68 =>
  GuardP t79 true (fun (k52 : N1) => Run Tryd.prog (Instr.loadAt 128 t81) w68 k52) w68 fun t82 w69 =>
  GuardP t79 true (fun (k53 : N1) => Run Tryd.prog (Instr.fieldAt 130 b_3 11) w69 k53) w69 fun t83 w70 =>
  GuardP t79 true (fun (k54 : N1) => Run Tryd.prog (Instr.loadAt 128 t83) w70 k54) w70 fun t84 w71 =>
  GuardP t79 true (fun (k55 : N1) => Run Tryd.prog (binSem Go.BinOp.eql 128 (Go.Operand.tmp 82) (Go.Operand.tmp 84) t82 t84) w71 k55) w71 fun t85 w72 =>
  PickP t79 t85 (Go.Value.bool false) w72 fun t86 w73 =>
  GuardP t86 true (fun (k56 : N1) => Run Tryd.prog (Instr.fieldAt 130 a_2 12) w73 k56) w73 fun t88 w74 =>
  GuardP t86 true (fun (k57 : N1) => Run Tryd.prog (Instr.loadAt 9 t88) w74 k57) w74 fun t89 w75 =>
  GuardP t86 true (fun (k58 : N1) => Run Tryd.prog (Instr.fieldAt 130 b_3 12) w75 k58) w75 fun t90 w76 =>
  GuardP t86 true (fun (k59 : N1) => Run Tryd.prog (Instr.loadAt 9 t90) w76 k59) w76 fun t91 w77 =>
  GuardP t86 true (fun (k60 : N1) => Run Tryd.prog (binSem Go.BinOp.eql 9 (Go.Operand.tmp 89) (Go.Operand.tmp 91) t89 t91) w77 k60) w77 fun t92 w78 =>
  PickP t86 t92 (Go.Value.bool false) w78 fun t93 w79 =>
  GuardP t93 true (fun (k61 : N1) => Run Tryd.prog (Instr.fieldAt 130 a_2 13) w79 k61) w79 fun t95 w80 =>
  GuardP t93 true (fun (k62 : N1) => Run Tryd.prog (Instr.loadAt 26 t95) w80 k62) w80 fun t96 w81 =>
  GuardP t93 true (fun (k63 : N1) => Run Tryd.prog (Instr.fieldAt 130 b_3 13) w81 k63) w81 fun t97 w82 =>
  GuardP t93 true (fun (k64 : N1) => Run Tryd.prog (Instr.loadAt 26 t97) w82 k64) w82 fun t98 w83 =>
  GuardP t93 true (fun (k65 : N1) => GoN Tryd.prog (callFunc 46 #[t96, t98]) w83 k65) w83 fun t99 w84 =>
  PickP t93 t99 (Go.Value.bool false) w84 fun t100 w85 =>
  R t100 w85
theorem S67_eq (a_0 b_1 : Value) (w : World) (R : Value → World → Prop) : vcFn Tryd.prog Tryd.f67 [a_0, b_1] w R = S67 a_0 b_1 w R := by kernel_rfl
theorem D67 {a_0 b_1 : Value} {w : World} {R : Value → World → Prop} (h : S67 a_0 b_1 w R) : Does Tryd.prog 67 [a_0, b_1] w R :=
  does_of_vc mixed Tryd.func67 (by kernel_rfl) (by kernel_rfl) ((S67_eq a_0 b_1 w R).mpr h)

/-- (*busbar/busbarkit.Book).Signals -/
def S74 (b_0 l_1 : Value) (w : World) (R : Value → World → Prop) : Prop :=
  Run Tryd.prog (nilSem b_0) w fun t7 w1 =>
  Run Tryd.prog (Instr.fieldAt 67 t7 10) w1 fun t8 w2 =>
  Run Tryd.prog (Instr.loadAt 61 t8) w2 fun t9 w3 =>
  Run Tryd.prog (Instr.buildSlice 61 1 #[(0, l_1)]) w3 fun t11 w4 =>
  Run Tryd.prog (Builtin.append_ #[61, 61] 61 #[t9, t11]) w4 fun t12 w5 =>
  Run Tryd.prog (nilSem b_0) w5 fun t13 w6 =>
  Run Tryd.prog (Instr.fieldAt 67 t13 10) w6 fun t14 w7 =>
  RunU Tryd.prog (Instr.storeAt 61 t14 t12) w7 fun w8 =>
  JoinP 1 (fun (k1 : N1) =>
    LoopP 1 (fun (k2 : N1) => (fun (i_4 : Value) (w9 : World) => 
      Run Tryd.prog (Builtin.len_ #[75] 3 #[l_1]) w9 fun t17 w10 =>
      Run Tryd.prog (binSem Go.BinOp.lss 3 (Go.Operand.tmp 15) (Go.Operand.tmp 17) i_4 t17) w10 fun t18 w11 =>
      CondP t18 0 (fun (k3 : N0) =>
        k3 w11)
      (fun (k4 : N0) =>
        k1 i_4 w11)
      (fun (w12 : World) => 
      JoinP 0 (fun (k5 : N0) =>
        Run Tryd.prog (Instr.indexAt 75 l_1 i_4) w12 fun t24 w13 =>
        Run Tryd.prog (Instr.loadAt 130 t24) w13 fun t25 w14 =>
        GoN Tryd.prog (callFunc 78 #[b_0, t25]) w14 fun t26 w15 =>
        k5 w15)
      (fun (w16 : World) => 
      Run Tryd.prog (binSem Go.BinOp.add 3 (Go.Operand.tmp 19) (Go.Operand.const (Go.Value.int Go.IntKind.i64 1)) i_4 (Go.Value.int Go.IntKind.i64 1)) w16 fun t20 w17 =>
      k2 t20 w17))))
    [(Go.Value.int Go.IntKind.i64 0)] w8)
  (fun (i_4 : Value) (w18 : World) => 
  R (.tuple #[]) w18)
theorem S74_eq (b_0 l_1 : Value) (w : World) (R : Value → World → Prop) : vcFn Tryd.prog Tryd.f74 [b_0, l_1] w R = S74 b_0 l_1 w R := by kernel_rfl
theorem D74 {b_0 l_1 : Value} {w : World} {R : Value → World → Prop} (h : S74 b_0 l_1 w R) : Does Tryd.prog 74 [b_0, l_1] w R :=
  does_of_vc mixed Tryd.func74 (by kernel_rfl) (by kernel_rfl) ((S74_eq b_0 l_1 w R).mpr h)

/-- (*busbar/busbarkit.Book).Rows -/
def S75 (b_0 l_1 : Value) (w : World) (R : Value → World → Prop) : Prop :=
  Run Tryd.prog (nilSem b_0) w fun t6 w1 =>
  Run Tryd.prog (Instr.fieldAt 67 t6 5) w1 fun t7 w2 =>
  Run Tryd.prog (Instr.loadAt 56 t7) w2 fun t8 w3 =>
  Run Tryd.prog (Instr.buildSlice 56 1 #[(0, l_1)]) w3 fun t10 w4 =>
  Run Tryd.prog (Builtin.append_ #[56, 56] 56 #[t8, t10]) w4 fun t11 w5 =>
  Run Tryd.prog (nilSem b_0) w5 fun t12 w6 =>
  Run Tryd.prog (Instr.fieldAt 67 t12 5) w6 fun t13 w7 =>
  RunU Tryd.prog (Instr.storeAt 56 t13 t11) w7 fun w8 =>
  R (.tuple #[]) w8
theorem S75_eq (b_0 l_1 : Value) (w : World) (R : Value → World → Prop) : vcFn Tryd.prog Tryd.f75 [b_0, l_1] w R = S75 b_0 l_1 w R := by kernel_rfl
theorem D75 {b_0 l_1 : Value} {w : World} {R : Value → World → Prop} (h : S75 b_0 l_1 w R) : Does Tryd.prog 75 [b_0, l_1] w R :=
  does_of_vc mixed Tryd.func75 (by kernel_rfl) (by kernel_rfl) ((S75_eq b_0 l_1 w R).mpr h)

/-- (*busbar/busbarkit.Book).Signal -/
def S78 (b_0 s_1 : Value) (w : World) (R : Value → World → Prop) : Prop :=
  Run Tryd.prog (Instr.box 130 s_1) w fun s_3 w1 =>
  Run Tryd.prog (Instr.fieldAt 130 s_3 13) w1 fun t5 w2 =>
  Run Tryd.prog (Instr.loadAt 26 t5) w2 fun t6 w3 =>
  GoN Tryd.prog (callFunc 56 #[b_0, t6]) w3 fun t7 w4 =>
  R (.tuple #[]) w4
theorem S78_eq (b_0 s_1 : Value) (w : World) (R : Value → World → Prop) : vcFn Tryd.prog Tryd.f78 [b_0, s_1] w R = S78 b_0 s_1 w R := by kernel_rfl
theorem D78 {b_0 s_1 : Value} {w : World} {R : Value → World → Prop} (h : S78 b_0 s_1 w R) : Does Tryd.prog 78 [b_0, s_1] w R :=
  does_of_vc mixed Tryd.func78 (by kernel_rfl) (by kernel_rfl) ((S78_eq b_0 s_1 w R).mpr h)

/-- (busbar/api.Version).Where -/
def S96 (v_0 : Value) (w : World) (R : Value → World → Prop) : Prop :=
  Run Tryd.prog (Instr.box 25 v_0) w fun v_1 w1 =>
  Run Tryd.prog (Instr.alloc 23 true (.tuple #[])) w1 fun t2 w2 =>
  Run Tryd.prog (Instr.fieldAt 25 v_1 0) w2 fun t3 w3 =>
  Run Tryd.prog (Instr.loadAt 23 t3) w3 fun t4 w4 =>
  RunU Tryd.prog (Instr.storeAt 23 t2 t4) w4 fun w5 =>
  resK Tryd.prog t2 23 w5 fun r0 =>
  R r0 w5
theorem S96_eq (v_0 : Value) (w : World) (R : Value → World → Prop) : vcFn Tryd.prog Tryd.f96 [v_0] w R = S96 v_0 w R := by kernel_rfl
theorem D96 {v_0 : Value} {w : World} {R : Value → World → Prop} (h : S96 v_0 w R) : Does Tryd.prog 96 [v_0] w R :=
  does_of_vc mixed Tryd.func96 (by kernel_rfl) (by kernel_rfl) ((S96_eq v_0 w R).mpr h)

/-- (busbar/api.Stations).Where -/
def S97 (s_0 : Value) (w : World) (R : Value → World → Prop) : Prop :=
  Run Tryd.prog (Instr.box 28 s_0) w fun s_1 w1 =>
  Run Tryd.prog (Instr.alloc 23 true (.tuple #[])) w1 fun t2 w2 =>
  Run Tryd.prog (Instr.fieldAt 28 s_1 0) w2 fun t3 w3 =>
  Run Tryd.prog (Instr.loadAt 23 t3) w3 fun t4 w4 =>
  RunU Tryd.prog (Instr.storeAt 23 t2 t4) w4 fun w5 =>
  resK Tryd.prog t2 23 w5 fun r0 =>
  R r0 w5
theorem S97_eq (s_0 : Value) (w : World) (R : Value → World → Prop) : vcFn Tryd.prog Tryd.f97 [s_0] w R = S97 s_0 w R := by kernel_rfl
theorem D97 {s_0 : Value} {w : World} {R : Value → World → Prop} (h : S97 s_0 w R) : Does Tryd.prog 97 [s_0] w R :=
  does_of_vc mixed Tryd.func97 (by kernel_rfl) (by kernel_rfl) ((S97_eq s_0 w R).mpr h)

/-- (busbar/api.Message).Where -/
def S98 (m_0 : Value) (w : World) (R : Value → World → Prop) : Prop :=
  Run Tryd.prog (Instr.box 77 m_0) w fun m_1 w1 =>
  Run Tryd.prog (Instr.alloc 23 true (.tuple #[])) w1 fun t2 w2 =>
  Run Tryd.prog (Instr.fieldAt 77 m_1 0) w2 fun t3 w3 =>
  Run Tryd.prog (Instr.loadAt 23 t3) w3 fun t4 w4 =>
  RunU Tryd.prog (Instr.storeAt 23 t2 t4) w4 fun w5 =>
  resK Tryd.prog t2 23 w5 fun r0 =>
  R r0 w5
theorem S98_eq (m_0 : Value) (w : World) (R : Value → World → Prop) : vcFn Tryd.prog Tryd.f98 [m_0] w R = S98 m_0 w R := by kernel_rfl
theorem D98 {m_0 : Value} {w : World} {R : Value → World → Prop} (h : S98 m_0 w R) : Does Tryd.prog 98 [m_0] w R :=
  does_of_vc mixed Tryd.func98 (by kernel_rfl) (by kernel_rfl) ((S98_eq m_0 w R).mpr h)

/-- (busbar/api.Table).Where -/
def S99 (t_0 : Value) (w : World) (R : Value → World → Prop) : Prop :=
  Run Tryd.prog (Instr.box 81 t_0) w fun t_1 w1 =>
  Run Tryd.prog (Instr.alloc 23 true (.tuple #[])) w1 fun t2 w2 =>
  Run Tryd.prog (Instr.fieldAt 81 t_1 0) w2 fun t3 w3 =>
  Run Tryd.prog (Instr.loadAt 23 t3) w3 fun t4 w4 =>
  RunU Tryd.prog (Instr.storeAt 23 t2 t4) w4 fun w5 =>
  resK Tryd.prog t2 23 w5 fun r0 =>
  R r0 w5
theorem S99_eq (t_0 : Value) (w : World) (R : Value → World → Prop) : vcFn Tryd.prog Tryd.f99 [t_0] w R = S99 t_0 w R := by kernel_rfl
theorem D99 {t_0 : Value} {w : World} {R : Value → World → Prop} (h : S99 t_0 w R) : Does Tryd.prog 99 [t_0] w R :=
  does_of_vc mixed Tryd.func99 (by kernel_rfl) (by kernel_rfl) ((S99_eq t_0 w R).mpr h)

/-- (busbar/api.Fault).Unwrap -/
def S102 (f_0 : Value) (w : World) (R : Value → World → Prop) : Prop :=
  Run Tryd.prog (Instr.box 96 f_0) w fun f_1 w1 =>
  Run Tryd.prog (Instr.fieldAt 96 f_1 0) w1 fun t3 w2 =>
  Run Tryd.prog (Instr.loadAt 94 t3) w2 fun t4 w3 =>
  Run Tryd.prog (Instr.makeInterface 94 t4) w3 fun t5 w4 =>
  R t5 w4
theorem S102_eq (f_0 : Value) (w : World) (R : Value → World → Prop) : vcFn Tryd.prog Tryd.f102 [f_0] w R = S102 f_0 w R := by kernel_rfl
theorem D102 {f_0 : Value} {w : World} {R : Value → World → Prop} (h : S102 f_0 w R) : Does Tryd.prog 102 [f_0] w R :=
  does_of_vc mixed Tryd.func102 (by kernel_rfl) (by kernel_rfl) ((S102_eq f_0 w R).mpr h)

/-- errors.As -/
def S52 (err_0 target_1 : Value) (w : World) (R : Value → World → Prop) : Prop :=
  Run Tryd.prog (binSem Go.BinOp.eql 42 (Go.Operand.tmp 8) (Go.Operand.const Go.Value.nilIface) err_0 Go.Value.nilIface) w fun t9 w1 =>
  CondP t9 1 (fun (k1 : N1) =>
    R (Go.Value.bool false) w1)
  (fun (k2 : N1) =>
    k2 (Go.Value.bool false) w1)
  (fun (t4 : Value) (w2 : World) => 
  Run Tryd.prog (binSem Go.BinOp.eql 20 (Go.Operand.tmp 10) (Go.Operand.const Go.Value.nilIface) target_1 Go.Value.nilIface) w2 fun t11 w3 =>
  CondP t11 0 (fun (k3 : N0) =>
    Run Tryd.prog (Instr.makeInterface 9 (Go.Value.string { data := #[101, 114, 114, 111, 114, 115, 58, 32, 116, 97, 114, 103, 101, 116, 32, 99, 97, 110, 110, 111, 116, 32, 98, 101, 32, 110, 105, 108] })) w3 fun t12 w4 =>
    False)
  (fun (k4 : N0) =>
    k4 w3)
  (fun (w5 : World) => 
  GoN Tryd.prog (callFunc 68 #[target_1]) w5 fun t14 w6 =>
  Run Tryd.prog (Instr.alloc 173 true (.tuple #[])) w6 fun val_5 w7 =>
  RunU Tryd.prog (Instr.storeAt 173 val_5 t14) w7 fun w8 =>
  Run Tryd.prog (Instr.loadAt 173 val_5) w8 fun t15 w9 =>
  GoN Tryd.prog (callFunc 69 #[t15]) w9 fun t16 w10 =>
  GoN Tryd.prog (callMethod t16 "Kind" #[]) w10 fun t18 w11 =>
  Run Tryd.prog (binSem Go.BinOp.neq 178 (Go.Operand.tmp 18) (Go.Operand.const (Go.Value.int Go.IntKind.u8 22)) t18 (Go.Value.int Go.IntKind.u8 22)) w11 fun t19 w12 =>
  GuardP t19 false (fun (k5 : N1) => Run Tryd.prog (Instr.loadAt 173 val_5) w12 k5) w12 fun t21 w13 =>
  GuardP t19 false (fun (k6 : N1) => GoN Tryd.prog (callFunc 70 #[t21]) w13 k6) w13 fun t22 w14 =>
  PickP t19 (Go.Value.bool true) t22 w14 fun t23 w15 =>
  CondP t23 0 (fun (k7 : N0) =>
    Run Tryd.prog (Instr.makeInterface 9 (Go.Value.string { data := #[101, 114, 114, 111, 114, 115, 58, 32, 116, 97, 114, 103, 101, 116, 32, 109, 117, 115, 116, 32, 98, 101, 32, 97, 32, 110, 111, 110, 45, 110, 105, 108, 32, 112, 111, 105, 110, 116, 101, 114] })) w15 fun t24 w16 =>
    False)
  (fun (k8 : N0) =>
    k8 w15)
  (fun (w17 : World) => 
  GoN Tryd.prog (callMethod t16 "Elem" #[]) w17 fun t26 w18 =>
  GoN Tryd.prog (callMethod t26 "Kind" #[]) w18 fun t28 w19 =>
  Run Tryd.prog (binSem Go.BinOp.neq 178 (Go.Operand.tmp 28) (Go.Operand.const (Go.Value.int Go.IntKind.u8 20)) t28 (Go.Value.int Go.IntKind.u8 20)) w19 fun t29 w20 =>
  GuardP t29 true (fun (k9 : N1) => k9 t26 w20) w20 fun t31 w21 =>
  GuardP t29 true (fun (k10 : N1) => Run Tryd.prog (Instr.loadAt 176 (Go.Value.pointer (some ⟨0, 0, none⟩))) w21 k10) w21 fun t32 w22 =>
  GuardP t29 true (fun (k11 : N1) => GoN Tryd.prog (callMethod t31 "Implements" #[t32]) w22 k11) w22 fun t33 w23 =>
  GuardP t29 true (fun (k12 : N1) => Run Tryd.prog (Op.unary Go.UnOp.not t33) w23 k12) w23 fun t34 w24 =>
  PickP t29 t34 (Go.Value.bool false) w24 fun t35 w25 =>
  CondP t35 0 (fun (k13 : N0) =>
    Run Tryd.prog (Instr.makeInterface 9 (Go.Value.string { data := #[101, 114, 114, 111, 114, 115, 58, 32, 42, 116, 97, 114, 103, 101, 116, 32, 109, 117, 115, 116, 32, 98, 101, 32, 105, 110, 116, 101, 114, 102, 97, 99, 101, 32, 111, 114, 32, 105, 109, 112, 108, 101, 109, 101, 110, 116, 32, 101, 114, 114, 111, 114] })) w25 fun t36 w26 =>
    False)
  (fun (k14 : N0) =>
    k14 w25)
  (fun (w27 : World) => 
  Run Tryd.prog (Instr.loadAt 173 val_5) w27 fun t39 w28 =>
  GoN Tryd.prog (callFunc 71 #[err_0, target_1, t39, t26]) w28 fun t41 w29 =>
  R t41 w29))))
theorem S52_eq (err_0 target_1 : Value) (w : World) (R : Value → World → Prop) : vcFn Tryd.prog Tryd.f52 [err_0, target_1] w R = S52 err_0 target_1 w R := by kernel_rfl
theorem D52 {err_0 target_1 : Value} {w : World} {R : Value → World → Prop} (h : S52 err_0 target_1 w R) : Does Tryd.prog 52 [err_0, target_1] w R :=
  does_of_vc mixed Tryd.func52 (by kernel_rfl) (by kernel_rfl) ((S52_eq err_0 target_1 w R).mpr h)

/-- errors.Is -/
def S53 (err_0 target_1 : Value) (w : World) (R : Value → World → Prop) : Prop :=
  Run Tryd.prog (binSem Go.BinOp.eql 42 (Go.Operand.tmp 6) (Go.Operand.const Go.Value.nilIface) err_0 Go.Value.nilIface) w fun t7 w1 =>
  GuardP t7 false (fun (k1 : N1) => k1 target_1 w1) w1 fun t9 w2 =>
  GuardP t7 false (fun (k2 : N1) => Run Tryd.prog (binSem Go.BinOp.eql 42 (Go.Operand.tmp 9) (Go.Operand.const Go.Value.nilIface) t9 Go.Value.nilIface) w2 k2) w2 fun t10 w3 =>
  PickP t7 (Go.Value.bool true) t10 w3 fun t11 w4 =>
  CondP t11 1 (fun (k3 : N1) =>
    Run Tryd.prog (binSem Go.BinOp.eql 42 (Go.Operand.tmp 12) (Go.Operand.tmp 13) err_0 target_1) w4 fun t14 w5 =>
    R t14 w5)
  (fun (k4 : N1) =>
    k4 (Go.Value.bool false) w4)
  (fun (t4 : Value) (w6 : World) => 
  GoN Tryd.prog (callFunc 72 #[target_1]) w6 fun t16 w7 =>
  GoN Tryd.prog (callMethod t16 "Comparable" #[]) w7 fun t17 w8 =>
  GoN Tryd.prog (callFunc 73 #[err_0, target_1, t17]) w8 fun t21 w9 =>
  R t21 w9)
theorem S53_eq (err_0 target_1 : Value) (w : World) (R : Value → World → Prop) : vcFn Tryd.prog Tryd.f53 [err_0, target_1] w R = S53 err_0 target_1 w R := by kernel_rfl
theorem D53 {err_0 target_1 : Value} {w : World} {R : Value → World → Prop} (h : S53 err_0 target_1 w R) : Does Tryd.prog 53 [err_0, target_1] w R :=
  does_of_vc mixed Tryd.func53 (by kernel_rfl) (by kernel_rfl) ((S53_eq err_0 target_1 w R).mpr h)

/-- errors.as -/
def S71 (err_0 target_1 targetVal_2 targetType_3 : Value) (w : World) (R : Value → World → Prop) : Prop :=
  Run Tryd.prog (Instr.box 173 targetVal_2) w fun targetVal_6 w1 =>
  JoinP 2 (fun (k1 : N2) =>
    LoopP 2 (fun (k2 : N2) => (fun (err_0 : Value) (t8 : Value) (w2 : World) => 
      JoinP 2 (fun (k3 : N2) =>
        GoN Tryd.prog (callFunc 72 #[err_0]) w2 fun t17 w3 =>
        GoN Tryd.prog (callMethod t17 "AssignableTo" #[targetType_3]) w3 fun t19 w4 =>
        CondP t19 1 (fun (k4 : N1) =>
          Run Tryd.prog (Instr.loadAt 173 targetVal_6) w4 fun t20 w5 =>
          GoN Tryd.prog (callFunc 76 #[t20]) w5 fun t21 w6 =>
          GoN Tryd.prog (callFunc 68 #[err_0]) w6 fun t23 w7 =>
          GoN Tryd.prog (callFunc 77 #[t21, t23]) w7 fun t24 w8 =>
          R (Go.Value.bool true) w8)
        (fun (k5 : N1) =>
          k5 t8 w4)
        (fun (t8 : Value) (w9 : World) => 
        Run Tryd.prog (Instr.typeAssert err_0 42 192 true) w9 fun t27 w10 =>
        Run Tryd.prog (Instr.extract t27 0) w10 fun t28 w11 =>
        Run Tryd.prog (Instr.extract t27 1) w11 fun t29 w12 =>
        GuardP t29 true (fun (k6 : N1) => k6 t28 w12) w12 fun t32 w13 =>
        GuardP t29 true (fun (k7 : N1) => k7 target_1 w13) w13 fun t33 w14 =>
        GuardP t29 true (fun (k8 : N1) => GoN Tryd.prog (callMethod t32 "As" #[t33]) w14 k8) w14 fun t34 w15 =>
        PickP t29 t34 (Go.Value.bool false) w15 fun t35 w16 =>
        CondP t35 1 (fun (k9 : N1) =>
          R (Go.Value.bool true) w16)
        (fun (k10 : N1) =>
          k10 t8 w16)
        (fun (t8 : Value) (w17 : World) => 
        JoinP 2 (fun (k11 : N2) =>
          Run Tryd.prog (Instr.typeAssert err_0 42 195 true) w17 fun t37 w18 =>
          Run Tryd.prog (Instr.extract t37 1) w18 fun t38 w19 =>
          Run Tryd.prog (Instr.extract t37 0) w19 fun t39 w20 =>
          CondP t38 2 (fun (k12 : N2) =>
            GoN Tryd.prog (callMethod t39 "Unwrap" #[]) w20 fun t41 w21 =>
            Run Tryd.prog (binSem Go.BinOp.eql 42 (Go.Operand.tmp 42) (Go.Operand.const Go.Value.nilIface) t41 Go.Value.nilIface) w21 fun t43 w22 =>
            CondP t43 1 (fun (k13 : N1) =>
              R (Go.Value.bool false) w22)
            (fun (k14 : N1) =>
              k14 t8 w22)
            (fun (t8 : Value) (w23 : World) => 
            k12 t41 t8 w23))
          (fun (k15 : N2) =>
            Run Tryd.prog (Instr.typeAssert err_0 42 197 true) w20 fun t44 w24 =>
            Run Tryd.prog (Instr.extract t44 1) w24 fun t45 w25 =>
            Run Tryd.prog (Instr.extract t44 0) w25 fun t46 w26 =>
            CondP t45 1 (fun (k16 : N1) =>
              GoN Tryd.prog (callMethod t46 "Unwrap" #[]) w26 fun t48 w27 =>
              Run Tryd.prog (Builtin.len_ #[198] 3 #[t48]) w27 fun t49 w28 =>
              JoinP 2 (fun (k17 : N2) =>
                LoopP 2 (fun (k18 : N2) => (fun (t8 : Value) (t50 : Value) (w29 : World) => 
                  Run Tryd.prog (binSem Go.BinOp.lss 3 (Go.Operand.tmp 50) (Go.Operand.tmp 49) t50 t49) w29 fun t51 w30 =>
                  CondP t51 0 (fun (k19 : N0) =>
                    k19 w30)
                  (fun (k20 : N0) =>
                    k17 t8 t50 w30)
                  (fun (w31 : World) => 
                  JoinP 1 (fun (k21 : N1) =>
                    Run Tryd.prog (Instr.indexAt 198 t48 t50) w31 fun t52 w32 =>
                    Run Tryd.prog (Instr.loadAt 42 t52) w32 fun t53 w33 =>
                    Run Tryd.prog (binSem Go.BinOp.eql 42 (Go.Operand.tmp 54) (Go.Operand.const Go.Value.nilIface) t53 Go.Value.nilIface) w33 fun t55 w34 =>
                    CondP t55 0 (fun (k22 : N0) =>
                      k21 t8 w34)
                    (fun (k23 : N0) =>
                      k23 w34)
                    (fun (w35 : World) => 
                    Run Tryd.prog (Instr.loadAt 173 targetVal_6) w35 fun t58 w36 =>
                    GoN Tryd.prog (callFunc 71 #[t53, target_1, t58, targetType_3]) w36 fun t60 w37 =>
                    CondP t60 1 (fun (k24 : N1) =>
                      R (Go.Value.bool true) w37)
                    (fun (k25 : N1) =>
                      k25 t8 w37)
                    (fun (t8 : Value) (w38 : World) => 
                    k21 t8 w38)))
                  (fun (t8 : Value) (w39 : World) => 
                  Run Tryd.prog (binSem Go.BinOp.add 3 (Go.Operand.tmp 50) (Go.Operand.const (Go.Value.int Go.IntKind.i64 1)) t50 (Go.Value.int Go.IntKind.i64 1)) w39 fun t61 w40 =>
                  k18 t8 t61 w40))))
                [t8, (Go.Value.int Go.IntKind.i64 0)] w28)
              (fun (t8 : Value) (t50 : Value) (w41 : World) => 
              R (Go.Value.bool false) w41))
            (fun (k26 : N1) =>
              R (Go.Value.bool false) w26)
            (fun (t8 : Value) (w42 : World) => 
            k15 err_0 t8 w42))
          (fun (err_0 : Value) (t8 : Value) (w43 : World) => 
          k11 err_0 t8 w43))
        (fun (err_0 : Value) (t8 : Value) (w44 : World) => 
        k3 err_0 t8 w44))))
      (fun (err_0 : Value) (t8 : Value) (w45 : World) => 
      k2 err_0 t8 w45)))
    [err_0, (Go.Value.bool false)] w1)
  (fun (err_0 : Value) (t8 : Value) (w46 : World) => 
  R t8 w46)
theorem S71_eq (err_0 target_1 targetVal_2 targetType_3 : Value) (w : World) (R : Value → World → Prop) : vcFn Tryd.prog Tryd.f71 [err_0, target_1, targetVal_2, targetType_3] w R = S71 err_0 target_1 targetVal_2 targetType_3 w R := by kernel_rfl
theorem D71 {err_0 target_1 targetVal_2 targetType_3 : Value} {w : World} {R : Value → World → Prop} (h : S71 err_0 target_1 targetVal_2 targetType_3 w R) : Does Tryd.prog 71 [err_0, target_1, targetVal_2, targetType_3] w R :=
  does_of_vc mixed Tryd.func71 (by kernel_rfl) (by kernel_rfl) ((S71_eq err_0 target_1 targetVal_2 targetType_3 w R).mpr h)

/-- errors.is -/
def S73 (err_0 target_1 targetComparable_2 : Value) (w : World) (R : Value → World → Prop) : Prop :=
  JoinP 2 (fun (k1 : N2) =>
    LoopP 2 (fun (k2 : N2) => (fun (err_0 : Value) (t6 : Value) (w1 : World) => 
      JoinP 2 (fun (k3 : N2) =>
        GuardP targetComparable_2 true (fun (k4 : N1) => k4 err_0 w1) w1 fun t16 w2 =>
        GuardP targetComparable_2 true (fun (k5 : N1) => k5 target_1 w2) w2 fun t17 w3 =>
        GuardP targetComparable_2 true (fun (k6 : N1) => Run Tryd.prog (binSem Go.BinOp.eql 42 (Go.Operand.tmp 16) (Go.Operand.tmp 17) t16 t17) w3 k6) w3 fun t18 w4 =>
        PickP targetComparable_2 t18 (Go.Value.bool false) w4 fun t19 w5 =>
        CondP t19 1 (fun (k7 : N1) =>
          R (Go.Value.bool true) w5)
        (fun (k8 : N1) =>
          k8 t6 w5)
        (fun (t6 : Value) (w6 : World) => 
        Run Tryd.prog (Instr.typeAssert err_0 42 200 true) w6 fun t22 w7 =>
        Run Tryd.prog (Instr.extract t22 0) w7 fun t23 w8 =>
        Run Tryd.prog (Instr.extract t22 1) w8 fun t24 w9 =>
        GuardP t24 true (fun (k9 : N1) => k9 t23 w9) w9 fun t27 w10 =>
        GuardP t24 true (fun (k10 : N1) => k10 target_1 w10) w10 fun t28 w11 =>
        GuardP t24 true (fun (k11 : N1) => GoN Tryd.prog (callMethod t27 "Is" #[t28]) w11 k11) w11 fun t29 w12 =>
        PickP t24 t29 (Go.Value.bool false) w12 fun t30 w13 =>
        CondP t30 1 (fun (k12 : N1) =>
          R (Go.Value.bool true) w13)
        (fun (k13 : N1) =>
          k13 t6 w13)
        (fun (t6 : Value) (w14 : World) => 
        JoinP 2 (fun (k14 : N2) =>
          Run Tryd.prog (Instr.typeAssert err_0 42 195 true) w14 fun t32 w15 =>
          Run Tryd.prog (Instr.extract t32 1) w15 fun t33 w16 =>
          Run Tryd.prog (Instr.extract t32 0) w16 fun t34 w17 =>
          CondP t33 2 (fun (k15 : N2) =>
            GoN Tryd.prog (callMethod t34 "Unwrap" #[]) w17 fun t36 w18 =>
            Run Tryd.prog (binSem Go.BinOp.eql 42 (Go.Operand.tmp 37) (Go.Operand.const Go.Value.nilIface) t36 Go.Value.nilIface) w18 fun t38 w19 =>
            CondP t38 1 (fun (k16 : N1) =>
              R (Go.Value.bool false) w19)
            (fun (k17 : N1) =>
              k17 t6 w19)
            (fun (t6 : Value) (w20 : World) => 
            k15 t36 t6 w20))
          (fun (k18 : N2) =>
            Run Tryd.prog (Instr.typeAssert err_0 42 197 true) w17 fun t39 w21 =>
            Run Tryd.prog (Instr.extract t39 1) w21 fun t40 w22 =>
            Run Tryd.prog (Instr.extract t39 0) w22 fun t41 w23 =>
            CondP t40 1 (fun (k19 : N1) =>
              GoN Tryd.prog (callMethod t41 "Unwrap" #[]) w23 fun t43 w24 =>
              Run Tryd.prog (Builtin.len_ #[198] 3 #[t43]) w24 fun t44 w25 =>
              JoinP 2 (fun (k20 : N2) =>
                LoopP 2 (fun (k21 : N2) => (fun (t6 : Value) (t45 : Value) (w26 : World) => 
                  Run Tryd.prog (binSem Go.BinOp.lss 3 (Go.Operand.tmp 45) (Go.Operand.tmp 44) t45 t44) w26 fun t46 w27 =>
                  CondP t46 0 (fun (k22 : N0) =>
                    k22 w27)
                  (fun (k23 : N0) =>
                    k20 t6 t45 w27)
                  (fun (w28 : World) => 
                  JoinP 1 (fun (k24 : N1) =>
                    Run Tryd.prog (Instr.indexAt 198 t43 t45) w28 fun t47 w29 =>
                    Run Tryd.prog (Instr.loadAt 42 t47) w29 fun t48 w30 =>
                    GoN Tryd.prog (callFunc 73 #[t48, target_1, targetComparable_2]) w30 fun t52 w31 =>
                    CondP t52 1 (fun (k25 : N1) =>
                      R (Go.Value.bool true) w31)
                    (fun (k26 : N1) =>
                      k26 t6 w31)
                    (fun (t6 : Value) (w32 : World) => 
                    k24 t6 w32))
                  (fun (t6 : Value) (w33 : World) => 
                  Run Tryd.prog (binSem Go.BinOp.add 3 (Go.Operand.tmp 45) (Go.Operand.const (Go.Value.int Go.IntKind.i64 1)) t45 (Go.Value.int Go.IntKind.i64 1)) w33 fun t53 w34 =>
                  k21 t6 t53 w34))))
                [t6, (Go.Value.int Go.IntKind.i64 0)] w25)
              (fun (t6 : Value) (t45 : Value) (w35 : World) => 
              R (Go.Value.bool false) w35))
            (fun (k27 : N1) =>
              R (Go.Value.bool false) w23)
            (fun (t6 : Value) (w36 : World) => 
            k18 err_0 t6 w36))
          (fun (err_0 : Value) (t6 : Value) (w37 : World) => 
          k14 err_0 t6 w37))
        (fun (err_0 : Value) (t6 : Value) (w38 : World) => 
        k3 err_0 t6 w38))))
      (fun (err_0 : Value) (t6 : Value) (w39 : World) => 
      k2 err_0 t6 w39)))
    [err_0, (Go.Value.bool false)] w)
  (fun (err_0 : Value) (t6 : Value) (w40 : World) => 
  R t6 w40)
theorem S73_eq (err_0 target_1 targetComparable_2 : Value) (w : World) (R : Value → World → Prop) : vcFn Tryd.prog Tryd.f73 [err_0, target_1, targetComparable_2] w R = S73 err_0 target_1 targetComparable_2 w R := by kernel_rfl
theorem D73 {err_0 target_1 targetComparable_2 : Value} {w : World} {R : Value → World → Prop} (h : S73 err_0 target_1 targetComparable_2 w R) : Does Tryd.prog 73 [err_0, target_1, targetComparable_2] w R :=
  does_of_vc mixed Tryd.func73 (by kernel_rfl) (by kernel_rfl) ((S73_eq err_0 target_1 targetComparable_2 w R).mpr h)

end Go.Proofs.YtmgleeoecdodjaaDoor.Sh
