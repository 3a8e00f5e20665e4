/- The conditions of functions, printed by a program off the loaded code and held against it by the kernel. Conditions: none. -/
import Derived.Test.YtmgleeoecdodjaaV5
import Derived.Test.YtmgleeoecdodjaaProg
set_option linter.unusedVariables false
set_option maxRecDepth 100000
namespace Go.Proofs.Ytmgleeoecdodjaa.Sh
open Go Go.V
theorem mixed : Try.prog.follows .mixedOrders = true := by kernel_rfl
/-- busbar/busbarref0.SameSignals -/
def S46 (a_0 b_1 : Value) (w : World) (R : Value → World → Prop) : Prop :=
  Run Try.prog (Builtin.len_ #[60] 3 #[a_0]) w fun t7 w1 =>
  Run Try.prog (Builtin.len_ #[60] 3 #[b_1]) w1 fun t9 w2 =>
  Run Try.prog (binSem Go.BinOp.neq 3 (Go.Operand.tmp 7) (Go.Operand.tmp 9) t7 t9) w2 fun t10 w3 =>
  CondP t10 1 (fun (k1 : N1) =>
    R (Go.Value.bool false) w3)
  (fun (k2 : N1) =>
    k2 (Go.Value.bool false) w3)
  (fun (t4 : Value) (w4 : World) => 
  JoinP 2 (fun (k3 : N2) =>
    LoopP 2 (fun (k4 : N2) => (fun (t4 : Value) (i_5 : Value) (w5 : World) => 
      Run Try.prog (Builtin.len_ #[60] 3 #[a_0]) w5 fun t13 w6 =>
      Run Try.prog (binSem Go.BinOp.lss 3 (Go.Operand.tmp 11) (Go.Operand.tmp 13) i_5 t13) w6 fun t14 w7 =>
      CondP t14 0 (fun (k5 : N0) =>
        k5 w7)
      (fun (k6 : N0) =>
        k3 t4 i_5 w7)
      (fun (w8 : World) => 
      JoinP 1 (fun (k7 : N1) =>
        ∀ w9, Ext w8 w9 →
        RunQ Try.prog (Instr.indexAt 60 a_0 i_5) w9 fun t19 =>
        RunQ Try.prog (Instr.loadAt 119 t19) w9 fun t20 =>
        RunQ Try.prog (Instr.indexAt 60 b_1 i_5) w9 fun t23 =>
        RunQ Try.prog (Instr.loadAt 119 t23) w9 fun t24 =>
        GoN Try.prog (callFunc 72 #[t20, t24]) w9 fun t25 w10 => Ext w9 w10 ∧
        RunQ Try.prog (Op.unary Go.UnOp.not t25) w9 fun t26 =>
        CondP t26 1 (fun (k8 : N1) =>
          R (Go.Value.bool false) w10)
        (fun (k9 : N1) =>
          k9 t4 w10)
        (fun (t4 : Value) (w11 : World) => 
        k7 t4 w11))
      (fun (t4 : Value) (w12 : World) => 
      Run Try.prog (binSem Go.BinOp.add 3 (Go.Operand.tmp 15) (Go.Operand.const (Go.Value.int Go.IntKind.i64 1)) i_5 (Go.Value.int Go.IntKind.i64 1)) w12 fun t16 w13 =>
      k4 t4 t16 w13))))
    [t4, (Go.Value.int Go.IntKind.i64 0)] w4)
  (fun (t4 : Value) (i_5 : Value) (w14 : World) => 
  R (Go.Value.bool true) w14))
theorem S46_eq (a_0 b_1 : Value) (w : World) (R : Value → World → Prop) : vcFn Try.prog Try.f46 [a_0, b_1] w R = S46 a_0 b_1 w R := by kernel_rfl
theorem D46 {a_0 b_1 : Value} {w : World} {R : Value → World → Prop} (h : S46 a_0 b_1 w R) : Does Try.prog 46 [a_0, b_1] w R :=
  does_of_vc mixed Try.func46 (by kernel_rfl) (by kernel_rfl) ((S46_eq a_0 b_1 w R).mpr h)

/-- (*busbar/busbarkit.Book).Signals -/
def S47 (b_0 l_1 : Value) (w : World) (R : Value → World → Prop) : Prop :=
  Run Try.prog (nilSem b_0) w fun t7 w1 =>
  Run Try.prog (Instr.fieldAt 54 t7 10) w1 fun t8 w2 =>
  Run Try.prog (Instr.loadAt 48 t8) w2 fun t9 w3 =>
  Run Try.prog (Instr.buildSlice 48 1 #[(0, l_1)]) w3 fun t11 w4 =>
  Run Try.prog (Builtin.append_ #[48, 48] 48 #[t9, t11]) w4 fun t12 w5 =>
  Run Try.prog (nilSem b_0) w5 fun t13 w6 =>
  Run Try.prog (Instr.fieldAt 54 t13 10) w6 fun t14 w7 =>
  RunU Try.prog (Instr.storeAt 48 t14 t12) w7 fun w8 =>
  JoinP 1 (fun (k1 : N1) =>
    LoopP 1 (fun (k2 : N1) => (fun (i_4 : Value) (w9 : World) => 
      Run Try.prog (Builtin.len_ #[60] 3 #[l_1]) w9 fun t17 w10 =>
      Run Try.prog (binSem Go.BinOp.lss 3 (Go.Operand.tmp 15) (Go.Operand.tmp 17) i_4 t17) w10 fun t18 w11 =>
      CondP t18 0 (fun (k3 : N0) =>
        k3 w11)
      (fun (k4 : N0) =>
        k1 i_4 w11)
      (fun (w12 : World) => 
      JoinP 0 (fun (k5 : N0) =>
        Run Try.prog (Instr.indexAt 60 l_1 i_4) w12 fun t24 w13 =>
        Run Try.prog (Instr.loadAt 119 t24) w13 fun t25 w14 =>
        GoN Try.prog (callFunc 73 #[b_0, t25]) w14 fun t26 w15 =>
        k5 w15)
      (fun (w16 : World) => 
      Run Try.prog (binSem Go.BinOp.add 3 (Go.Operand.tmp 19) (Go.Operand.const (Go.Value.int Go.IntKind.i64 1)) i_4 (Go.Value.int Go.IntKind.i64 1)) w16 fun t20 w17 =>
      k2 t20 w17))))
    [(Go.Value.int Go.IntKind.i64 0)] w8)
  (fun (i_4 : Value) (w18 : World) => 
  R (.tuple #[]) w18)
theorem S47_eq (b_0 l_1 : Value) (w : World) (R : Value → World → Prop) : vcFn Try.prog Try.f47 [b_0, l_1] w R = S47 b_0 l_1 w R := by kernel_rfl
theorem D47 {b_0 l_1 : Value} {w : World} {R : Value → World → Prop} (h : S47 b_0 l_1 w R) : Does Try.prog 47 [b_0, l_1] w R :=
  does_of_vc mixed Try.func47 (by kernel_rfl) (by kernel_rfl) ((S47_eq b_0 l_1 w R).mpr h)

/-- busbar/node.kind -/
def S48 (n_0 : Value) (w : World) (R : Value → World → Prop) : Prop :=
  Run Try.prog (Instr.alloc 111 true (.tuple #[])) w fun t2 w1 =>
  JoinP 0 (fun (k1 : N0) =>
    Run Try.prog (Instr.typeAssert n_0 70 25 true) w1 fun t4 w2 =>
    Run Try.prog (Instr.extract t4 1) w2 fun t5 w3 =>
    Run Try.prog (Instr.extract t4 0) w3 fun t6 w4 =>
    CondP t5 0 (fun (k2 : N0) =>
      Run Try.prog (Instr.build 111 #[(0, (Go.Value.int Go.IntKind.i64 1)), (1, (Go.Value.string { data := #[118, 101, 114, 115, 105, 111, 110] }))]) w4 fun t7 w5 =>
      RunU Try.prog (Instr.storeAt 111 t2 t7) w5 fun w6 =>
      resK Try.prog t2 111 w6 fun r0 =>
      R r0 w6)
    (fun (k3 : N0) =>
      Run Try.prog (Instr.typeAssert n_0 70 28 true) w4 fun t8 w7 =>
      Run Try.prog (Instr.extract t8 1) w7 fun t9 w8 =>
      Run Try.prog (Instr.extract t8 0) w8 fun t10 w9 =>
      CondP t9 0 (fun (k4 : N0) =>
        Run Try.prog (Instr.build 111 #[(0, (Go.Value.int Go.IntKind.i64 2)), (1, (Go.Value.string { data := #[115, 116, 97, 116, 105, 111, 110, 115] }))]) w9 fun t11 w10 =>
        RunU Try.prog (Instr.storeAt 111 t2 t11) w10 fun w11 =>
        resK Try.prog t2 111 w11 fun r0 =>
        R r0 w11)
      (fun (k5 : N0) =>
        Run Try.prog (Instr.typeAssert n_0 70 62 true) w9 fun t12 w12 =>
        Run Try.prog (Instr.extract t12 1) w12 fun t13 w13 =>
        Run Try.prog (Instr.extract t12 0) w13 fun t14 w14 =>
        CondP t13 0 (fun (k6 : N0) =>
          Run Try.prog (Instr.build 111 #[(0, (Go.Value.int Go.IntKind.i64 3)), (1, (Go.Value.string { data := #[109, 101, 115, 115, 97, 103, 101] }))]) w14 fun t15 w15 =>
          RunU Try.prog (Instr.storeAt 111 t2 t15) w15 fun w16 =>
          resK Try.prog t2 111 w16 fun r0 =>
          R r0 w16)
        (fun (k7 : N0) =>
          Run Try.prog (Instr.typeAssert n_0 70 79 true) w14 fun t16 w17 =>
          Run Try.prog (Instr.extract t16 1) w17 fun t17 w18 =>
          Run Try.prog (Instr.extract t16 0) w18 fun t18 w19 =>
          CondP t17 0 (fun (k8 : N0) =>
            Run Try.prog (Instr.build 111 #[(0, (Go.Value.int Go.IntKind.i64 4)), (1, (Go.Value.string { data := #[116, 97, 98, 108, 101] }))]) w19 fun t19 w20 =>
            RunU Try.prog (Instr.storeAt 111 t2 t19) w20 fun w21 =>
            resK Try.prog t2 111 w21 fun r0 =>
            R r0 w21)
          (fun (k9 : N0) =>
            k9 w19)
          (fun (w22 : World) => 
          k7 w22))
        (fun (w23 : World) => 
        k5 w23))
      (fun (w24 : World) => 
      k3 w24))
    (fun (w25 : World) => 
    k1 w25))
  (fun (w26 : World) => 
  Run Try.prog (Instr.build 111 #[]) w26 fun t20 w27 =>
  RunU Try.prog (Instr.storeAt 111 t2 t20) w27 fun w28 =>
  resK Try.prog t2 111 w28 fun r0 =>
  R r0 w28)
theorem S48_eq (n_0 : Value) (w : World) (R : Value → World → Prop) : vcFn Try.prog Try.f48 [n_0] w R = S48 n_0 w R := by kernel_rfl
theorem D48 {n_0 : Value} {w : World} {R : Value → World → Prop} (h : S48 n_0 w R) : Does Try.prog 48 [n_0] w R :=
  does_of_vc mixed Try.func48 (by kernel_rfl) (by kernel_rfl) ((S48_eq n_0 w R).mpr h)

/-- busbar/busbarkit.LentMessage -/
def S49 (s_0 : Value) (w : World) (R : Value → World → Prop) : Prop :=
  Run Try.prog (Instr.box 62 s_0) w fun s_1 w1 =>
  Run Try.prog (Instr.alloc 62 true (.tuple #[])) w1 fun t2 w2 =>
  Run Try.prog (Instr.loadAt 62 s_1) w2 fun t4 w3 =>
  Run Try.prog (Instr.alloc 62 true (.tuple #[])) w3 fun x_3 w4 =>
  RunU Try.prog (Instr.storeAt 62 x_3 t4) w4 fun w5 =>
  Run Try.prog (Instr.fieldAt 62 s_1 6) w5 fun t5 w6 =>
  Run Try.prog (Instr.loadAt 60 t5) w6 fun t6 w7 =>
  GoN Try.prog (callFunc 74 #[t6]) w7 fun t7 w8 =>
  Run Try.prog (Instr.fieldAt 62 x_3 6) w8 fun t8 w9 =>
  RunU Try.prog (Instr.storeAt 60 t8 t7) w9 fun w10 =>
  Run Try.prog (Instr.loadAt 62 x_3) w10 fun t9 w11 =>
  RunU Try.prog (Instr.storeAt 62 t2 t9) w11 fun w12 =>
  resK Try.prog t2 62 w12 fun r0 =>
  R r0 w12
theorem S49_eq (s_0 : Value) (w : World) (R : Value → World → Prop) : vcFn Try.prog Try.f49 [s_0] w R = S49 s_0 w R := by kernel_rfl
theorem D49 {s_0 : Value} {w : World} {R : Value → World → Prop} (h : S49 s_0 w R) : Does Try.prog 49 [s_0] w R :=
  does_of_vc mixed Try.func49 (by kernel_rfl) (by kernel_rfl) ((S49_eq s_0 w R).mpr h)

/-- busbar/busbarkit.LentTable -/
def S50 (s_0 : Value) (w : World) (R : Value → World → Prop) : Prop :=
  Run Try.prog (Instr.box 79 s_0) w fun s_1 w1 =>
  Run Try.prog (Instr.alloc 79 true (.tuple #[])) w1 fun t2 w2 =>
  Run Try.prog (Instr.loadAt 79 s_1) w2 fun t4 w3 =>
  Run Try.prog (Instr.alloc 79 true (.tuple #[])) w3 fun x_3 w4 =>
  RunU Try.prog (Instr.storeAt 79 x_3 t4) w4 fun w5 =>
  Run Try.prog (Instr.fieldAt 79 s_1 4) w5 fun t5 w6 =>
  Run Try.prog (Instr.loadAt 77 t5) w6 fun t6 w7 =>
  GoN Try.prog (callFunc 75 #[t6]) w7 fun t7 w8 =>
  Run Try.prog (Instr.fieldAt 79 x_3 4) w8 fun t8 w9 =>
  RunU Try.prog (Instr.storeAt 77 t8 t7) w9 fun w10 =>
  Run Try.prog (Instr.loadAt 79 x_3) w10 fun t9 w11 =>
  RunU Try.prog (Instr.storeAt 79 t2 t9) w11 fun w12 =>
  resK Try.prog t2 79 w12 fun r0 =>
  R r0 w12
theorem S50_eq (s_0 : Value) (w : World) (R : Value → World → Prop) : vcFn Try.prog Try.f50 [s_0] w R = S50 s_0 w R := by kernel_rfl
theorem D50 {s_0 : Value} {w : World} {R : Value → World → Prop} (h : S50 s_0 w R) : Does Try.prog 50 [s_0] w R :=
  does_of_vc mixed Try.func50 (by kernel_rfl) (by kernel_rfl) ((S50_eq s_0 w R).mpr h)

/-- busbar/busbarkit.LentTexts -/
def S51 (l_0 : Value) (w : World) (R : Value → World → Prop) : Prop :=
  GoN Try.prog (callFunc 76 #[l_0]) w fun t5 w1 =>
  Run Try.prog (Builtin.len_ #[26] 3 #[l_0]) w1 fun t8 w2 =>
  Run Try.prog (Instr.sliceAt 26 t5 none (some t8) none) w2 fun t9 w3 =>
  R t9 w3
theorem S51_eq (l_0 : Value) (w : World) (R : Value → World → Prop) : vcFn Try.prog Try.f51 [l_0] w R = S51 l_0 w R := by kernel_rfl
theorem D51 {l_0 : Value} {w : World} {R : Value → World → Prop} (h : S51 l_0 w R) : Does Try.prog 51 [l_0] w R :=
  does_of_vc mixed Try.func51 (by kernel_rfl) (by kernel_rfl) ((S51_eq l_0 w R).mpr h)

/-- slices.Clone[[]string,string] -/
def S52 (s_0 : Value) (w : World) (R : Value → World → Prop) : Prop :=
  Run Try.prog (binSem Go.BinOp.eql 26 (Go.Operand.tmp 3) (Go.Operand.const (Go.Value.slice none 0 0)) s_0 (Go.Value.slice none 0 0)) w fun t4 w1 =>
  CondP t4 1 (fun (k1 : N1) =>
    R (Go.Value.slice none 0 0) w1)
  (fun (k2 : N1) =>
    k2 (Go.Value.slice none 0 0) w1)
  (fun (t2 : Value) (w2 : World) => 
  Run Try.prog (Instr.buildSlice 26 0 #[]) w2 fun t5 w3 =>
  Run Try.prog (Builtin.append_ #[26, 26] 26 #[t5, s_0]) w3 fun t7 w4 =>
  R t7 w4)
theorem S52_eq (s_0 : Value) (w : World) (R : Value → World → Prop) : vcFn Try.prog Try.f52 [s_0] w R = S52 s_0 w R := by kernel_rfl
theorem D52 {s_0 : Value} {w : World} {R : Value → World → Prop} (h : S52 s_0 w R) : Does Try.prog 52 [s_0] w R :=
  does_of_vc mixed Try.func52 (by kernel_rfl) (by kernel_rfl) ((S52_eq s_0 w R).mpr h)

/-- slices.Clone[[]busbar/api.Signal,busbar/api.Signal] -/
def S53 (s_0 : Value) (w : World) (R : Value → World → Prop) : Prop :=
  Run Try.prog (binSem Go.BinOp.eql 60 (Go.Operand.tmp 3) (Go.Operand.const (Go.Value.slice none 0 0)) s_0 (Go.Value.slice none 0 0)) w fun t4 w1 =>
  CondP t4 1 (fun (k1 : N1) =>
    R (Go.Value.slice none 0 0) w1)
  (fun (k2 : N1) =>
    k2 (Go.Value.slice none 0 0) w1)
  (fun (t2 : Value) (w2 : World) => 
  Run Try.prog (Instr.buildSlice 60 0 #[]) w2 fun t5 w3 =>
  Run Try.prog (Builtin.append_ #[60, 60] 60 #[t5, s_0]) w3 fun t7 w4 =>
  R t7 w4)
theorem S53_eq (s_0 : Value) (w : World) (R : Value → World → Prop) : vcFn Try.prog Try.f53 [s_0] w R = S53 s_0 w R := by kernel_rfl
theorem D53 {s_0 : Value} {w : World} {R : Value → World → Prop} (h : S53 s_0 w R) : Does Try.prog 53 [s_0] w R :=
  does_of_vc mixed Try.func53 (by kernel_rfl) (by kernel_rfl) ((S53_eq s_0 w R).mpr h)

/-- slices.Clone[[]busbar/api.Row,busbar/api.Row] -/
def S54 (s_0 : Value) (w : World) (R : Value → World → Prop) : Prop :=
  Run Try.prog (binSem Go.BinOp.eql 77 (Go.Operand.tmp 3) (Go.Operand.const (Go.Value.slice none 0 0)) s_0 (Go.Value.slice none 0 0)) w fun t4 w1 =>
  CondP t4 1 (fun (k1 : N1) =>
    R (Go.Value.slice none 0 0) w1)
  (fun (k2 : N1) =>
    k2 (Go.Value.slice none 0 0) w1)
  (fun (t2 : Value) (w2 : World) => 
  Run Try.prog (Instr.buildSlice 77 0 #[]) w2 fun t5 w3 =>
  Run Try.prog (Builtin.append_ #[77, 77] 77 #[t5, s_0]) w3 fun t7 w4 =>
  R t7 w4)
theorem S54_eq (s_0 : Value) (w : World) (R : Value → World → Prop) : vcFn Try.prog Try.f54 [s_0] w R = S54 s_0 w R := by kernel_rfl
theorem D54 {s_0 : Value} {w : World} {R : Value → World → Prop} (h : S54 s_0 w R) : Does Try.prog 54 [s_0] w R :=
  does_of_vc mixed Try.func54 (by kernel_rfl) (by kernel_rfl) ((S54_eq s_0 w R).mpr h)

/-- busbar/busbarref0.SameTexts -/
def S55 (a_0 b_1 : Value) (w : World) (R : Value → World → Prop) : Prop :=
  Run Try.prog (Builtin.len_ #[26] 3 #[a_0]) w fun t7 w1 =>
  Run Try.prog (Builtin.len_ #[26] 3 #[b_1]) w1 fun t9 w2 =>
  Run Try.prog (binSem Go.BinOp.neq 3 (Go.Operand.tmp 7) (Go.Operand.tmp 9) t7 t9) w2 fun t10 w3 =>
  CondP t10 1 (fun (k1 : N1) =>
    R (Go.Value.bool false) w3)
  (fun (k2 : N1) =>
    k2 (Go.Value.bool false) w3)
  (fun (t4 : Value) (w4 : World) => 
  JoinP 2 (fun (k3 : N2) =>
    LoopP 2 (fun (k4 : N2) => (fun (t4 : Value) (i_5 : Value) (w5 : World) => 
      Run Try.prog (Builtin.len_ #[26] 3 #[a_0]) w5 fun t13 w6 =>
      Run Try.prog (binSem Go.BinOp.lss 3 (Go.Operand.tmp 11) (Go.Operand.tmp 13) i_5 t13) w6 fun t14 w7 =>
      CondP t14 0 (fun (k5 : N0) =>
        k5 w7)
      (fun (k6 : N0) =>
        k3 t4 i_5 w7)
      (fun (w8 : World) => 
      JoinP 1 (fun (k7 : N1) =>
        ∀ w9, Ext w8 w9 →
        RunQ Try.prog (Instr.indexAt 26 a_0 i_5) w9 fun t19 =>
        RunQ Try.prog (Instr.loadAt 9 t19) w9 fun t20 =>
        RunQ Try.prog (Instr.indexAt 26 b_1 i_5) w9 fun t23 =>
        RunQ Try.prog (Instr.loadAt 9 t23) w9 fun t24 =>
        RunQ Try.prog (binSem Go.BinOp.neq 9 (Go.Operand.tmp 20) (Go.Operand.tmp 24) t20 t24) w9 fun t25 =>
        CondP t25 1 (fun (k8 : N1) =>
          R (Go.Value.bool false) w9)
        (fun (k9 : N1) =>
          k9 t4 w9)
        (fun (t4 : Value) (w10 : World) => 
        k7 t4 w10))
      (fun (t4 : Value) (w11 : World) => 
      Run Try.prog (binSem Go.BinOp.add 3 (Go.Operand.tmp 15) (Go.Operand.const (Go.Value.int Go.IntKind.i64 1)) i_5 (Go.Value.int Go.IntKind.i64 1)) w11 fun t16 w12 =>
      k4 t4 t16 w12))))
    [t4, (Go.Value.int Go.IntKind.i64 0)] w4)
  (fun (t4 : Value) (i_5 : Value) (w13 : World) => 
  R (Go.Value.bool true) w13))
theorem S55_eq (a_0 b_1 : Value) (w : World) (R : Value → World → Prop) : vcFn Try.prog Try.f55 [a_0, b_1] w R = S55 a_0 b_1 w R := by kernel_rfl
theorem D55 {a_0 b_1 : Value} {w : World} {R : Value → World → Prop} (h : S55 a_0 b_1 w R) : Does Try.prog 55 [a_0, b_1] w R :=
  does_of_vc mixed Try.func55 (by kernel_rfl) (by kernel_rfl) ((S55_eq a_0 b_1 w R).mpr h)

/-- busbar/busbarref0.SameRows -/
def S56 (a_0 b_1 : Value) (w : World) (R : Value → World → Prop) : Prop :=
  Run Try.prog (Builtin.len_ #[77] 3 #[a_0]) w fun t7 w1 =>
  Run Try.prog (Builtin.len_ #[77] 3 #[b_1]) w1 fun t9 w2 =>
  Run Try.prog (binSem Go.BinOp.neq 3 (Go.Operand.tmp 7) (Go.Operand.tmp 9) t7 t9) w2 fun t10 w3 =>
  CondP t10 1 (fun (k1 : N1) =>
    R (Go.Value.bool false) w3)
  (fun (k2 : N1) =>
    k2 (Go.Value.bool false) w3)
  (fun (t4 : Value) (w4 : World) => 
  JoinP 2 (fun (k3 : N2) =>
    LoopP 2 (fun (k4 : N2) => (fun (t4 : Value) (i_5 : Value) (w5 : World) => 
      Run Try.prog (Builtin.len_ #[77] 3 #[a_0]) w5 fun t13 w6 =>
      Run Try.prog (binSem Go.BinOp.lss 3 (Go.Operand.tmp 11) (Go.Operand.tmp 13) i_5 t13) w6 fun t14 w7 =>
      CondP t14 0 (fun (k5 : N0) =>
        k5 w7)
      (fun (k6 : N0) =>
        k3 t4 i_5 w7)
      (fun (w8 : World) => 
      JoinP 1 (fun (k7 : N1) =>
        ∀ w9, Ext w8 w9 →
        RunQ Try.prog (Instr.indexAt 77 a_0 i_5) w9 fun t19 =>
        RunQ Try.prog (Instr.loadAt 122 t19) w9 fun t20 =>
        RunQ Try.prog (Instr.indexAt 77 b_1 i_5) w9 fun t23 =>
        RunQ Try.prog (Instr.loadAt 122 t23) w9 fun t24 =>
        RunQ Try.prog (binSem Go.BinOp.neq 122 (Go.Operand.tmp 20) (Go.Operand.tmp 24) t20 t24) w9 fun t25 =>
        CondP t25 1 (fun (k8 : N1) =>
          R (Go.Value.bool false) w9)
        (fun (k9 : N1) =>
          k9 t4 w9)
        (fun (t4 : Value) (w10 : World) => 
        k7 t4 w10))
      (fun (t4 : Value) (w11 : World) => 
      Run Try.prog (binSem Go.BinOp.add 3 (Go.Operand.tmp 15) (Go.Operand.const (Go.Value.int Go.IntKind.i64 1)) i_5 (Go.Value.int Go.IntKind.i64 1)) w11 fun t16 w12 =>
      k4 t4 t16 w12))))
    [t4, (Go.Value.int Go.IntKind.i64 0)] w4)
  (fun (t4 : Value) (i_5 : Value) (w13 : World) => 
  R (Go.Value.bool true) w13))
theorem S56_eq (a_0 b_1 : Value) (w : World) (R : Value → World → Prop) : vcFn Try.prog Try.f56 [a_0, b_1] w R = S56 a_0 b_1 w R := by kernel_rfl
theorem D56 {a_0 b_1 : Value} {w : World} {R : Value → World → Prop} (h : S56 a_0 b_1 w R) : Does Try.prog 56 [a_0, b_1] w R :=
  does_of_vc mixed Try.func56 (by kernel_rfl) (by kernel_rfl) ((S56_eq a_0 b_1 w R).mpr h)

/-- busbar/busbarkit.KeptMessage -/
def S57 (x_0 s_1 : Value) (w : World) (R : Value → World → Prop) : Prop :=
  Run Try.prog (Instr.box 62 x_0) w fun x_2 w1 =>
  Run Try.prog (Instr.box 62 s_1) w1 fun s_3 w2 =>
  Run Try.prog (Instr.fieldAt 62 x_2 0) w2 fun t5 w3 =>
  Run Try.prog (Instr.loadAt 23 t5) w3 fun t6 w4 =>
  Run Try.prog (Instr.fieldAt 62 s_3 0) w4 fun t7 w5 =>
  Run Try.prog (Instr.loadAt 23 t7) w5 fun t8 w6 =>
  Run Try.prog (binSem Go.BinOp.eql 23 (Go.Operand.tmp 6) (Go.Operand.tmp 8) t6 t8) w6 fun t9 w7 =>
  GuardP t9 true (fun (k1 : N1) => Run Try.prog (Instr.fieldAt 62 x_2 1) w7 k1) w7 fun t11 w8 =>
  GuardP t9 true (fun (k2 : N1) => Run Try.prog (Instr.loadAt 59 t11) w8 k2) w8 fun t12 w9 =>
  GuardP t9 true (fun (k3 : N1) => Run Try.prog (Instr.fieldAt 62 s_3 1) w9 k3) w9 fun t13 w10 =>
  GuardP t9 true (fun (k4 : N1) => Run Try.prog (Instr.loadAt 59 t13) w10 k4) w10 fun t14 w11 =>
  GuardP t9 true (fun (k5 : N1) => Run Try.prog (binSem Go.BinOp.eql 59 (Go.Operand.tmp 12) (Go.Operand.tmp 14) t12 t14) w11 k5) w11 fun t15 w12 =>
  PickP t9 t15 (Go.Value.bool false) w12 fun t16 w13 =>
  GuardP t16 true (fun (k6 : N1) => Run Try.prog (Instr.fieldAt 62 x_2 2) w13 k6) w13 fun t18 w14 =>
  GuardP t16 true (fun (k7 : N1) => Run Try.prog (Instr.loadAt 4 t18) w14 k7) w14 fun t19 w15 =>
  GuardP t16 true (fun (k8 : N1) => Run Try.prog (Instr.fieldAt 62 s_3 2) w15 k8) w15 fun t20 w16 =>
  GuardP t16 true (fun (k9 : N1) => Run Try.prog (Instr.loadAt 4 t20) w16 k9) w16 fun t21 w17 =>
  GuardP t16 true (fun (k10 : N1) => Run Try.prog (binSem Go.BinOp.eql 4 (Go.Operand.tmp 19) (Go.Operand.tmp 21) t19 t21) w17 k10) w17 fun t22 w18 =>
  PickP t16 t22 (Go.Value.bool false) w18 fun t23 w19 =>
  GuardP t23 true (fun (k11 : N1) => Run Try.prog (Instr.fieldAt 62 x_2 3) w19 k11) w19 fun t25 w20 =>
  GuardP t23 true (fun (k12 : N1) => Run Try.prog (Instr.loadAt 9 t25) w20 k12) w20 fun t26 w21 =>
  GuardP t23 true (fun (k13 : N1) => Run Try.prog (Instr.fieldAt 62 s_3 3) w21 k13) w21 fun t27 w22 =>
  GuardP t23 true (fun (k14 : N1) => Run Try.prog (Instr.loadAt 9 t27) w22 k14) w22 fun t28 w23 =>
  GuardP t23 true (fun (k15 : N1) => Run Try.prog (binSem Go.BinOp.eql 9 (Go.Operand.tmp 26) (Go.Operand.tmp 28) t26 t28) w23 k15) w23 fun t29 w24 =>
  PickP t23 t29 (Go.Value.bool false) w24 fun t30 w25 =>
  GuardP t30 true (fun (k16 : N1) => Run Try.prog (Instr.fieldAt 62 x_2 4) w25 k16) w25 fun t32 w26 =>
  GuardP t30 true (fun (k17 : N1) => Run Try.prog (Instr.loadAt 3 t32) w26 k17) w26 fun t33 w27 =>
  GuardP t30 true (fun (k18 : N1) => Run Try.prog (Instr.fieldAt 62 s_3 4) w27 k18) w27 fun t34 w28 =>
  GuardP t30 true (fun (k19 : N1) => Run Try.prog (Instr.loadAt 3 t34) w28 k19) w28 fun t35 w29 =>
  GuardP t30 true (fun (k20 : N1) => Run Try.prog (binSem Go.BinOp.eql 3 (Go.Operand.tmp 33) (Go.Operand.tmp 35) t33 t35) w29 k20) w29 fun t36 w30 =>
  PickP t30 t36 (Go.Value.bool false) w30 fun t37 w31 =>
  GuardP t37 true (fun (k21 : N1) => Run Try.prog (Instr.fieldAt 62 x_2 5) w31 k21) w31 fun t39 w32 =>
  GuardP t37 true (fun (k22 : N1) => Run Try.prog (Instr.loadAt 9 t39) w32 k22) w32 fun t40 w33 =>
  GuardP t37 true (fun (k23 : N1) => Run Try.prog (Instr.fieldAt 62 s_3 5) w33 k23) w33 fun t41 w34 =>
  GuardP t37 true (fun (k24 : N1) => Run Try.prog (Instr.loadAt 9 t41) w34 k24) w34 fun t42 w35 =>
  GuardP t37 true (fun (k25 : N1) => Run Try.prog (binSem Go.BinOp.eql 9 (Go.Operand.tmp 40) (Go.Operand.tmp 42) t40 t42) w35 k25) w35 fun t43 w36 =>
  PickP t37 t43 (Go.Value.bool false) w36 fun t44 w37 =>
  GuardP t44 true (fun (k26 : N1) => Run Try.prog (Instr.fieldAt 62 x_2 6) w37 k26) w37 fun t46 w38 =>
  GuardP t44 true (fun (k27 : N1) => Run Try.prog (Instr.loadAt 60 t46) w38 k27) w38 fun t47 w39 =>
  GuardP t44 true (fun (k28 : N1) => Run Try.prog (Instr.fieldAt 62 s_3 6) w39 k28) w39 fun t48 w40 =>
  GuardP t44 true (fun (k29 : N1) => Run Try.prog (Instr.loadAt 60 t48) w40 k29) w40 fun t49 w41 =>
  GuardP t44 true (fun (k30 : N1) => GoN Try.prog (callFunc 77 #[t47, t49]) w41 k30) w41 fun t50 w42 =>
  PickP t44 t50 (Go.Value.bool false) w42 fun t51 w43 =>
  R t51 w43
theorem S57_eq (x_0 s_1 : Value) (w : World) (R : Value → World → Prop) : vcFn Try.prog Try.f57 [x_0, s_1] w R = S57 x_0 s_1 w R := by kernel_rfl
theorem D57 {x_0 s_1 : Value} {w : World} {R : Value → World → Prop} (h : S57 x_0 s_1 w R) : Does Try.prog 57 [x_0, s_1] w R :=
  does_of_vc mixed Try.func57 (by kernel_rfl) (by kernel_rfl) ((S57_eq x_0 s_1 w R).mpr h)

/-- busbar/busbarkit.KeptTable -/
def S58 (x_0 s_1 : Value) (w : World) (R : Value → World → Prop) : Prop :=
  Run Try.prog (Instr.box 79 x_0) w fun x_2 w1 =>
  Run Try.prog (Instr.box 79 s_1) w1 fun s_3 w2 =>
  Run Try.prog (Instr.fieldAt 79 x_2 0) w2 fun t5 w3 =>
  Run Try.prog (Instr.loadAt 23 t5) w3 fun t6 w4 =>
  Run Try.prog (Instr.fieldAt 79 s_3 0) w4 fun t7 w5 =>
  Run Try.prog (Instr.loadAt 23 t7) w5 fun t8 w6 =>
  Run Try.prog (binSem Go.BinOp.eql 23 (Go.Operand.tmp 6) (Go.Operand.tmp 8) t6 t8) w6 fun t9 w7 =>
  GuardP t9 true (fun (k1 : N1) => Run Try.prog (Instr.fieldAt 79 x_2 1) w7 k1) w7 fun t11 w8 =>
  GuardP t9 true (fun (k2 : N1) => Run Try.prog (Instr.loadAt 59 t11) w8 k2) w8 fun t12 w9 =>
  GuardP t9 true (fun (k3 : N1) => Run Try.prog (Instr.fieldAt 79 s_3 1) w9 k3) w9 fun t13 w10 =>
  GuardP t9 true (fun (k4 : N1) => Run Try.prog (Instr.loadAt 59 t13) w10 k4) w10 fun t14 w11 =>
  GuardP t9 true (fun (k5 : N1) => Run Try.prog (binSem Go.BinOp.eql 59 (Go.Operand.tmp 12) (Go.Operand.tmp 14) t12 t14) w11 k5) w11 fun t15 w12 =>
  PickP t9 t15 (Go.Value.bool false) w12 fun t16 w13 =>
  GuardP t16 true (fun (k6 : N1) => Run Try.prog (Instr.fieldAt 79 x_2 2) w13 k6) w13 fun t18 w14 =>
  GuardP t16 true (fun (k7 : N1) => Run Try.prog (Instr.loadAt 4 t18) w14 k7) w14 fun t19 w15 =>
  GuardP t16 true (fun (k8 : N1) => Run Try.prog (Instr.fieldAt 79 s_3 2) w15 k8) w15 fun t20 w16 =>
  GuardP t16 true (fun (k9 : N1) => Run Try.prog (Instr.loadAt 4 t20) w16 k9) w16 fun t21 w17 =>
  GuardP t16 true (fun (k10 : N1) => Run Try.prog (binSem Go.BinOp.eql 4 (Go.Operand.tmp 19) (Go.Operand.tmp 21) t19 t21) w17 k10) w17 fun t22 w18 =>
  PickP t16 t22 (Go.Value.bool false) w18 fun t23 w19 =>
  GuardP t23 true (fun (k11 : N1) => Run Try.prog (Instr.fieldAt 79 x_2 3) w19 k11) w19 fun t25 w20 =>
  GuardP t23 true (fun (k12 : N1) => Run Try.prog (Instr.loadAt 9 t25) w20 k12) w20 fun t26 w21 =>
  GuardP t23 true (fun (k13 : N1) => Run Try.prog (Instr.fieldAt 79 s_3 3) w21 k13) w21 fun t27 w22 =>
  GuardP t23 true (fun (k14 : N1) => Run Try.prog (Instr.loadAt 9 t27) w22 k14) w22 fun t28 w23 =>
  GuardP t23 true (fun (k15 : N1) => Run Try.prog (binSem Go.BinOp.eql 9 (Go.Operand.tmp 26) (Go.Operand.tmp 28) t26 t28) w23 k15) w23 fun t29 w24 =>
  PickP t23 t29 (Go.Value.bool false) w24 fun t30 w25 =>
  GuardP t30 true (fun (k16 : N1) => Run Try.prog (Instr.fieldAt 79 x_2 4) w25 k16) w25 fun t32 w26 =>
  GuardP t30 true (fun (k17 : N1) => Run Try.prog (Instr.loadAt 77 t32) w26 k17) w26 fun t33 w27 =>
  GuardP t30 true (fun (k18 : N1) => Run Try.prog (Instr.fieldAt 79 s_3 4) w27 k18) w27 fun t34 w28 =>
  GuardP t30 true (fun (k19 : N1) => Run Try.prog (Instr.loadAt 77 t34) w28 k19) w28 fun t35 w29 =>
  GuardP t30 true (fun (k20 : N1) => GoN Try.prog (callFunc 78 #[t33, t35]) w29 k20) w29 fun t36 w30 =>
  PickP t30 t36 (Go.Value.bool false) w30 fun t37 w31 =>
  R t37 w31
theorem S58_eq (x_0 s_1 : Value) (w : World) (R : Value → World → Prop) : vcFn Try.prog Try.f58 [x_0, s_1] w R = S58 x_0 s_1 w R := by kernel_rfl
theorem D58 {x_0 s_1 : Value} {w : World} {R : Value → World → Prop} (h : S58 x_0 s_1 w R) : Does Try.prog 58 [x_0, s_1] w R :=
  does_of_vc mixed Try.func58 (by kernel_rfl) (by kernel_rfl) ((S58_eq x_0 s_1 w R).mpr h)

/-- busbar/busbarkit.KeptTexts -/
def S59 (out_0 l_1 : Value) (w : World) (R : Value → World → Prop) : Prop :=
  Run Try.prog (Builtin.len_ #[26] 3 #[out_0]) w fun t6 w1 =>
  Run Try.prog (Builtin.len_ #[26] 3 #[l_1]) w1 fun t8 w2 =>
  Run Try.prog (binSem Go.BinOp.neq 3 (Go.Operand.tmp 6) (Go.Operand.tmp 8) t6 t8) w2 fun t9 w3 =>
  CondP t9 1 (fun (k1 : N1) =>
    R (Go.Value.bool false) w3)
  (fun (k2 : N1) =>
    k2 (Go.Value.bool false) w3)
  (fun (t4 : Value) (w4 : World) => 
  Run Try.prog (Builtin.len_ #[26] 3 #[l_1]) w4 fun t12 w5 =>
  Run Try.prog (binSem Go.BinOp.add 3 (Go.Operand.tmp 12) (Go.Operand.const (Go.Value.int Go.IntKind.i64 16)) t12 (Go.Value.int Go.IntKind.i64 16)) w5 fun t13 w6 =>
  Run Try.prog (Instr.sliceAt 26 out_0 none (some t13) none) w6 fun t14 w7 =>
  GoN Try.prog (callFunc 79 #[t14, l_1]) w7 fun t16 w8 =>
  R t16 w8)
theorem S59_eq (out_0 l_1 : Value) (w : World) (R : Value → World → Prop) : vcFn Try.prog Try.f59 [out_0, l_1] w R = S59 out_0 l_1 w R := by kernel_rfl
theorem D59 {out_0 l_1 : Value} {w : World} {R : Value → World → Prop} (h : S59 out_0 l_1 w R) : Does Try.prog 59 [out_0, l_1] w R :=
  does_of_vc mixed Try.func59 (by kernel_rfl) (by kernel_rfl) ((S59_eq out_0 l_1 w R).mpr h)

/-- (*busbar/busbarkit.Book).Texts -/
def S60 (b_0 l_1 : Value) (w : World) (R : Value → World → Prop) : Prop :=
  Run Try.prog (nilSem b_0) w fun t6 w1 =>
  Run Try.prog (Instr.fieldAt 54 t6 1) w1 fun t7 w2 =>
  Run Try.prog (Instr.loadAt 39 t7) w2 fun t8 w3 =>
  Run Try.prog (Instr.buildSlice 39 1 #[(0, l_1)]) w3 fun t10 w4 =>
  Run Try.prog (Builtin.append_ #[39, 39] 39 #[t8, t10]) w4 fun t11 w5 =>
  Run Try.prog (nilSem b_0) w5 fun t12 w6 =>
  Run Try.prog (Instr.fieldAt 54 t12 1) w6 fun t13 w7 =>
  RunU Try.prog (Instr.storeAt 39 t13 t11) w7 fun w8 =>
  R (.tuple #[]) w8
theorem S60_eq (b_0 l_1 : Value) (w : World) (R : Value → World → Prop) : vcFn Try.prog Try.f60 [b_0, l_1] w R = S60 b_0 l_1 w R := by kernel_rfl
theorem D60 {b_0 l_1 : Value} {w : World} {R : Value → World → Prop} (h : S60 b_0 l_1 w R) : Does Try.prog 60 [b_0, l_1] w R :=
  does_of_vc mixed Try.func60 (by kernel_rfl) (by kernel_rfl) ((S60_eq b_0 l_1 w R).mpr h)

/-- (*busbar/busbarkit.Book).Rows -/
def S61 (b_0 l_1 : Value) (w : World) (R : Value → World → Prop) : Prop :=
  Run Try.prog (nilSem b_0) w fun t6 w1 =>
  Run Try.prog (Instr.fieldAt 54 t6 5) w1 fun t7 w2 =>
  Run Try.prog (Instr.loadAt 43 t7) w2 fun t8 w3 =>
  Run Try.prog (Instr.buildSlice 43 1 #[(0, l_1)]) w3 fun t10 w4 =>
  Run Try.prog (Builtin.append_ #[43, 43] 43 #[t8, t10]) w4 fun t11 w5 =>
  Run Try.prog (nilSem b_0) w5 fun t12 w6 =>
  Run Try.prog (Instr.fieldAt 54 t12 5) w6 fun t13 w7 =>
  RunU Try.prog (Instr.storeAt 43 t13 t11) w7 fun w8 =>
  R (.tuple #[]) w8
theorem S61_eq (b_0 l_1 : Value) (w : World) (R : Value → World → Prop) : vcFn Try.prog Try.f61 [b_0, l_1] w R = S61 b_0 l_1 w R := by kernel_rfl
theorem D61 {b_0 l_1 : Value} {w : World} {R : Value → World → Prop} (h : S61 b_0 l_1 w R) : Does Try.prog 61 [b_0, l_1] w R :=
  does_of_vc mixed Try.func61 (by kernel_rfl) (by kernel_rfl) ((S61_eq b_0 l_1 w R).mpr h)

/-- busbar/busbarkit.markBytes -/
def S62 (k_0 i_1 : Value) (w : World) (R : Value → World → Prop) : Prop :=
  Run Try.prog (binSem Go.BinOp.add 3 (Go.Operand.tmp 5) (Go.Operand.const (Go.Value.int Go.IntKind.i64 1)) k_0 (Go.Value.int Go.IntKind.i64 1)) w fun t6 w1 =>
  Run Try.prog (binSem Go.BinOp.mul 3 (Go.Operand.const (Go.Value.int Go.IntKind.i64 37)) (Go.Operand.tmp 6) (Go.Value.int Go.IntKind.i64 37) t6) w1 fun t7 w2 =>
  Run Try.prog (binSem Go.BinOp.add 3 (Go.Operand.tmp 7) (Go.Operand.tmp 8) t7 i_1) w2 fun t9 w3 =>
  Run Try.prog (convert 3 5 t9) w3 fun t10 w4 =>
  R t10 w4
theorem S62_eq (k_0 i_1 : Value) (w : World) (R : Value → World → Prop) : vcFn Try.prog Try.f62 [k_0, i_1] w R = S62 k_0 i_1 w R := by kernel_rfl
theorem D62 {k_0 i_1 : Value} {w : World} {R : Value → World → Prop} (h : S62 k_0 i_1 w R) : Does Try.prog 62 [k_0, i_1] w R :=
  does_of_vc mixed Try.func62 (by kernel_rfl) (by kernel_rfl) ((S62_eq k_0 i_1 w R).mpr h)

/-- busbar/busbarkit.markTexts -/
def S63 (k_0 i_1 : Value) (w : World) (R : Value → World → Prop) : Prop :=
  GoN Try.prog (callFunc 71 #[k_0, i_1]) w fun t7 w1 =>
  R t7 w1
theorem S63_eq (k_0 i_1 : Value) (w : World) (R : Value → World → Prop) : vcFn Try.prog Try.f63 [k_0, i_1] w R = S63 k_0 i_1 w R := by kernel_rfl
theorem D63 {k_0 i_1 : Value} {w : World} {R : Value → World → Prop} (h : S63 k_0 i_1 w R) : Does Try.prog 63 [k_0, i_1] w R :=
  does_of_vc mixed Try.func63 (by kernel_rfl) (by kernel_rfl) ((S63_eq k_0 i_1 w R).mpr h)

/-- busbar/busbarkit.markInts -/
def S64 (k_0 i_1 : Value) (w : World) (R : Value → World → Prop) : Prop :=
  Run Try.prog (binSem Go.BinOp.add 3 (Go.Operand.tmp 5) (Go.Operand.const (Go.Value.int Go.IntKind.i64 1)) k_0 (Go.Value.int Go.IntKind.i64 1)) w fun t6 w1 =>
  Run Try.prog (binSem Go.BinOp.mul 3 (Go.Operand.const (Go.Value.int Go.IntKind.i64 (-1000000))) (Go.Operand.tmp 6) (Go.Value.int Go.IntKind.i64 (-1000000)) t6) w1 fun t7 w2 =>
  Run Try.prog (binSem Go.BinOp.sub 3 (Go.Operand.tmp 7) (Go.Operand.tmp 8) t7 i_1) w2 fun t9 w3 =>
  R t9 w3
theorem S64_eq (k_0 i_1 : Value) (w : World) (R : Value → World → Prop) : vcFn Try.prog Try.f64 [k_0, i_1] w R = S64 k_0 i_1 w R := by kernel_rfl
theorem D64 {k_0 i_1 : Value} {w : World} {R : Value → World → Prop} (h : S64 k_0 i_1 w R) : Does Try.prog 64 [k_0, i_1] w R :=
  does_of_vc mixed Try.func64 (by kernel_rfl) (by kernel_rfl) ((S64_eq k_0 i_1 w R).mpr h)

/-- busbar/busbarkit.markNumbers -/
def S65 (k_0 i_1 : Value) (w : World) (R : Value → World → Prop) : Prop :=
  Run Try.prog (binSem Go.BinOp.add 3 (Go.Operand.tmp 5) (Go.Operand.const (Go.Value.int Go.IntKind.i64 1)) k_0 (Go.Value.int Go.IntKind.i64 1)) w fun t6 w1 =>
  Run Try.prog (convert 3 115 t6) w1 fun t7 w2 =>
  Run Try.prog (binSem Go.BinOp.mul 115 (Go.Operand.const (Go.Value.int Go.IntKind.u64 1000000)) (Go.Operand.tmp 7) (Go.Value.int Go.IntKind.u64 1000000) t7) w2 fun t8 w3 =>
  Run Try.prog (binSem Go.BinOp.add 115 (Go.Operand.const (Go.Value.int Go.IntKind.u64 9223372036854775808)) (Go.Operand.tmp 8) (Go.Value.int Go.IntKind.u64 9223372036854775808) t8) w3 fun t9 w4 =>
  Run Try.prog (convert 3 115 i_1) w4 fun t11 w5 =>
  Run Try.prog (binSem Go.BinOp.add 115 (Go.Operand.tmp 9) (Go.Operand.tmp 11) t9 t11) w5 fun t12 w6 =>
  R t12 w6
theorem S65_eq (k_0 i_1 : Value) (w : World) (R : Value → World → Prop) : vcFn Try.prog Try.f65 [k_0, i_1] w R = S65 k_0 i_1 w R := by kernel_rfl
theorem D65 {k_0 i_1 : Value} {w : World} {R : Value → World → Prop} (h : S65 k_0 i_1 w R) : Does Try.prog 65 [k_0, i_1] w R :=
  does_of_vc mixed Try.func65 (by kernel_rfl) (by kernel_rfl) ((S65_eq k_0 i_1 w R).mpr h)

/-- busbar/busbarkit.markTokens -/
def S66 (k_0 i_1 : Value) (w : World) (R : Value → World → Prop) : Prop :=
  Run Try.prog (Instr.alloc 135 true (.tuple #[])) w fun t4 w1 =>
  GoN Try.prog (callFunc 71 #[k_0, i_1]) w1 fun t7 w2 =>
  Run Try.prog (Instr.build 135 #[(0, (Go.Value.int Go.IntKind.i64 (-7))), (1, t7)]) w2 fun t8 w3 =>
  RunU Try.prog (Instr.storeAt 135 t4 t8) w3 fun w4 =>
  resK Try.prog t4 135 w4 fun r0 =>
  R r0 w4
theorem S66_eq (k_0 i_1 : Value) (w : World) (R : Value → World → Prop) : vcFn Try.prog Try.f66 [k_0, i_1] w R = S66 k_0 i_1 w R := by kernel_rfl
theorem D66 {k_0 i_1 : Value} {w : World} {R : Value → World → Prop} (h : S66 k_0 i_1 w R) : Does Try.prog 66 [k_0, i_1] w R :=
  does_of_vc mixed Try.func66 (by kernel_rfl) (by kernel_rfl) ((S66_eq k_0 i_1 w R).mpr h)

/-- busbar/busbarkit.markRows -/
def S67 (k_0 i_1 : Value) (w : World) (R : Value → World → Prop) : Prop :=
  Run Try.prog (Instr.alloc 122 true (.tuple #[])) w fun t4 w1 =>
  GoN Try.prog (callFunc 71 #[k_0, i_1]) w1 fun t7 w2 =>
  Run Try.prog (Instr.build 122 #[(0, (Go.Value.int Go.IntKind.i64 (-7))), (1, t7)]) w2 fun t8 w3 =>
  RunU Try.prog (Instr.storeAt 122 t4 t8) w3 fun w4 =>
  resK Try.prog t4 122 w4 fun r0 =>
  R r0 w4
theorem S67_eq (k_0 i_1 : Value) (w : World) (R : Value → World → Prop) : vcFn Try.prog Try.f67 [k_0, i_1] w R = S67 k_0 i_1 w R := by kernel_rfl
theorem D67 {k_0 i_1 : Value} {w : World} {R : Value → World → Prop} (h : S67 k_0 i_1 w R) : Does Try.prog 67 [k_0, i_1] w R :=
  does_of_vc mixed Try.func67 (by kernel_rfl) (by kernel_rfl) ((S67_eq k_0 i_1 w R).mpr h)

/-- busbar/busbarkit.markInstrs -/
def S68 (k_0 i_1 : Value) (w : World) (R : Value → World → Prop) : Prop :=
  Run Try.prog (Instr.alloc 140 true (.tuple #[])) w fun t4 w1 =>
  Run Try.prog (binSem Go.BinOp.sub 3 (Go.Operand.const (Go.Value.int Go.IntKind.i64 (-7))) (Go.Operand.tmp 5) (Go.Value.int Go.IntKind.i64 (-7)) k_0) w1 fun t6 w2 =>
  Run Try.prog (convert 3 115 i_1) w2 fun t8 w3 =>
  Run Try.prog (Instr.build 140 #[(0, t6), (4, t8)]) w3 fun t9 w4 =>
  RunU Try.prog (Instr.storeAt 140 t4 t9) w4 fun w5 =>
  resK Try.prog t4 140 w5 fun r0 =>
  R r0 w5
theorem S68_eq (k_0 i_1 : Value) (w : World) (R : Value → World → Prop) : vcFn Try.prog Try.f68 [k_0, i_1] w R = S68 k_0 i_1 w R := by kernel_rfl
theorem D68 {k_0 i_1 : Value} {w : World} {R : Value → World → Prop} (h : S68 k_0 i_1 w R) : Does Try.prog 68 [k_0, i_1] w R :=
  does_of_vc mixed Try.func68 (by kernel_rfl) (by kernel_rfl) ((S68_eq k_0 i_1 w R).mpr h)

/-- busbar/busbarkit.markRules -/
def S69 (k_0 i_1 : Value) (w : World) (R : Value → World → Prop) : Prop :=
  Run Try.prog (Instr.alloc 144 true (.tuple #[])) w fun t4 w1 =>
  Run Try.prog (convert 3 59 k_0) w1 fun t6 w2 =>
  Run Try.prog (convert 3 59 i_1) w2 fun t8 w3 =>
  Run Try.prog (Instr.build 144 #[(1, t6), (2, t8)]) w3 fun t9 w4 =>
  RunU Try.prog (Instr.storeAt 144 t4 t9) w4 fun w5 =>
  resK Try.prog t4 144 w5 fun r0 =>
  R r0 w5
theorem S69_eq (k_0 i_1 : Value) (w : World) (R : Value → World → Prop) : vcFn Try.prog Try.f69 [k_0, i_1] w R = S69 k_0 i_1 w R := by kernel_rfl
theorem D69 {k_0 i_1 : Value} {w : World} {R : Value → World → Prop} (h : S69 k_0 i_1 w R) : Does Try.prog 69 [k_0, i_1] w R :=
  does_of_vc mixed Try.func69 (by kernel_rfl) (by kernel_rfl) ((S69_eq k_0 i_1 w R).mpr h)

/-- busbar/busbarkit.markValues -/
def S70 (k_0 i_1 : Value) (w : World) (R : Value → World → Prop) : Prop :=
  Run Try.prog (Instr.alloc 148 true (.tuple #[])) w fun t4 w1 =>
  GoN Try.prog (callFunc 71 #[k_0, i_1]) w1 fun t7 w2 =>
  Run Try.prog (Instr.build 148 #[(1, (Go.Value.int Go.IntKind.u64 1)), (0, t7)]) w2 fun t8 w3 =>
  RunU Try.prog (Instr.storeAt 148 t4 t8) w3 fun w4 =>
  resK Try.prog t4 148 w4 fun r0 =>
  R r0 w4
theorem S70_eq (k_0 i_1 : Value) (w : World) (R : Value → World → Prop) : vcFn Try.prog Try.f70 [k_0, i_1] w R = S70 k_0 i_1 w R := by kernel_rfl
theorem D70 {k_0 i_1 : Value} {w : World} {R : Value → World → Prop} (h : S70 k_0 i_1 w R) : Does Try.prog 70 [k_0, i_1] w R :=
  does_of_vc mixed Try.func70 (by kernel_rfl) (by kernel_rfl) ((S70_eq k_0 i_1 w R).mpr h)

/-- busbar/busbarkit.MarkText -/
def S71 (k_0 i_1 : Value) (w : World) (R : Value → World → Prop) : Prop :=
  Run Try.prog (convert 3 5 k_0) w fun t6 w1 =>
  Run Try.prog (binSem Go.BinOp.shr 3 (Go.Operand.tmp 7) (Go.Operand.const (Go.Value.int Go.IntKind.u64 8)) k_0 (Go.Value.int Go.IntKind.u64 8)) w1 fun t8 w2 =>
  Run Try.prog (convert 3 5 t8) w2 fun t9 w3 =>
  Run Try.prog (convert 3 5 i_1) w3 fun t11 w4 =>
  Run Try.prog (binSem Go.BinOp.shr 3 (Go.Operand.tmp 12) (Go.Operand.const (Go.Value.int Go.IntKind.u64 8)) i_1 (Go.Value.int Go.IntKind.u64 8)) w4 fun t13 w5 =>
  Run Try.prog (convert 3 5 t13) w5 fun t14 w6 =>
  Run Try.prog (Instr.buildSlice 127 5 #[(0, (Go.Value.int Go.IntKind.u8 35)), (1, t6), (2, t9), (3, t11), (4, t14)]) w6 fun t15 w7 =>
  Run Try.prog (convert 127 9 t15) w7 fun t16 w8 =>
  R t16 w8
theorem S71_eq (k_0 i_1 : Value) (w : World) (R : Value → World → Prop) : vcFn Try.prog Try.f71 [k_0, i_1] w R = S71 k_0 i_1 w R := by kernel_rfl
theorem D71 {k_0 i_1 : Value} {w : World} {R : Value → World → Prop} (h : S71 k_0 i_1 w R) : Does Try.prog 71 [k_0, i_1] w R :=
  does_of_vc mixed Try.func71 (by kernel_rfl) (by kernel_rfl) ((S71_eq k_0 i_1 w R).mpr h)

/-- busbar/busbarref0.SameSignal -/
def S72 (a_0 b_1 : Value) (w : World) (R : Value → World → Prop) : Prop :=
  Run Try.prog (Instr.box 119 a_0) w fun a_2 w1 =>
  Run Try.prog (Instr.box 119 b_1) w1 fun b_3 w2 =>
  Run Try.prog (Instr.fieldAt 119 a_2 0) w2 fun t5 w3 =>
  Run Try.prog (Instr.loadAt 23 t5) w3 fun t6 w4 =>
  Run Try.prog (Instr.fieldAt 119 b_3 0) w4 fun t7 w5 =>
  Run Try.prog (Instr.loadAt 23 t7) w5 fun t8 w6 =>
  Run Try.prog (binSem Go.BinOp.eql 23 (Go.Operand.tmp 6) (Go.Operand.tmp 8) t6 t8) w6 fun t9 w7 =>
  GuardP t9 true (fun (k1 : N1) => Run Try.prog (Instr.fieldAt 119 a_2 1) w7 k1) w7 fun t11 w8 =>
  GuardP t9 true (fun (k2 : N1) => Run Try.prog (Instr.loadAt 9 t11) w8 k2) w8 fun t12 w9 =>
  GuardP t9 true (fun (k3 : N1) => Run Try.prog (Instr.fieldAt 119 b_3 1) w9 k3) w9 fun t13 w10 =>
  GuardP t9 true (fun (k4 : N1) => Run Try.prog (Instr.loadAt 9 t13) w10 k4) w10 fun t14 w11 =>
  GuardP t9 true (fun (k5 : N1) => Run Try.prog (binSem Go.BinOp.eql 9 (Go.Operand.tmp 12) (Go.Operand.tmp 14) t12 t14) w11 k5) w11 fun t15 w12 =>
  PickP t9 t15 (Go.Value.bool false) w12 fun t16 w13 =>
  GuardP t16 true (fun (k6 : N1) => Run Try.prog (Instr.fieldAt 119 a_2 2) w13 k6) w13 fun t18 w14 =>
  GuardP t16 true (fun (k7 : N1) => Run Try.prog (Instr.loadAt 3 t18) w14 k7) w14 fun t19 w15 =>
  GuardP t16 true (fun (k8 : N1) => Run Try.prog (Instr.fieldAt 119 b_3 2) w15 k8) w15 fun t20 w16 =>
  GuardP t16 true (fun (k9 : N1) => Run Try.prog (Instr.loadAt 3 t20) w16 k9) w16 fun t21 w17 =>
  GuardP t16 true (fun (k10 : N1) => Run Try.prog (binSem Go.BinOp.eql 3 (Go.Operand.tmp 19) (Go.Operand.tmp 21) t19 t21) w17 k10) w17 fun t22 w18 =>
  PickP t16 t22 (Go.Value.bool false) w18 fun t23 w19 =>
  GuardP t23 true (fun (k11 : N1) => Run Try.prog (Instr.fieldAt 119 a_2 3) w19 k11) w19 fun t25 w20 =>
  GuardP t23 true (fun (k12 : N1) => Run Try.prog (Instr.loadAt 115 t25) w20 k12) w20 fun t26 w21 =>
  GuardP t23 true (fun (k13 : N1) => Run Try.prog (Instr.fieldAt 119 b_3 3) w21 k13) w21 fun t27 w22 =>
  GuardP t23 true (fun (k14 : N1) => Run Try.prog (Instr.loadAt 115 t27) w22 k14) w22 fun t28 w23 =>
  GuardP t23 true (fun (k15 : N1) => Run Try.prog (binSem Go.BinOp.eql 115 (Go.Operand.tmp 26) (Go.Operand.tmp 28) t26 t28) w23 k15) w23 fun t29 w24 =>
  PickP t23 t29 (Go.Value.bool false) w24 fun t30 w25 =>
  GuardP t30 true (fun (k16 : N1) => Run Try.prog (Instr.fieldAt 119 a_2 4) w25 k16) w25 fun t32 w26 =>
  GuardP t30 true (fun (k17 : N1) => Run Try.prog (Instr.loadAt 3 t32) w26 k17) w26 fun t33 w27 =>
  GuardP t30 true (fun (k18 : N1) => Run Try.prog (Instr.fieldAt 119 b_3 4) w27 k18) w27 fun t34 w28 =>
  GuardP t30 true (fun (k19 : N1) => Run Try.prog (Instr.loadAt 3 t34) w28 k19) w28 fun t35 w29 =>
  GuardP t30 true (fun (k20 : N1) => Run Try.prog (binSem Go.BinOp.eql 3 (Go.Operand.tmp 33) (Go.Operand.tmp 35) t33 t35) w29 k20) w29 fun t36 w30 =>
  PickP t30 t36 (Go.Value.bool false) w30 fun t37 w31 =>
  GuardP t37 true (fun (k21 : N1) => Run Try.prog (Instr.fieldAt 119 a_2 5) w31 k21) w31 fun t39 w32 =>
  GuardP t37 true (fun (k22 : N1) => Run Try.prog (Instr.loadAt 3 t39) w32 k22) w32 fun t40 w33 =>
  GuardP t37 true (fun (k23 : N1) => Run Try.prog (Instr.fieldAt 119 b_3 5) w33 k23) w33 fun t41 w34 =>
  GuardP t37 true (fun (k24 : N1) => Run Try.prog (Instr.loadAt 3 t41) w34 k24) w34 fun t42 w35 =>
  GuardP t37 true (fun (k25 : N1) => Run Try.prog (binSem Go.BinOp.eql 3 (Go.Operand.tmp 40) (Go.Operand.tmp 42) t40 t42) w35 k25) w35 fun t43 w36 =>
  PickP t37 t43 (Go.Value.bool false) w36 fun t44 w37 =>
  GuardP t44 true (fun (k26 : N1) => Run Try.prog (Instr.fieldAt 119 a_2 6) w37 k26) w37 fun t46 w38 =>
  GuardP t44 true (fun (k27 : N1) => Run Try.prog (Instr.loadAt 4 t46) w38 k27) w38 fun t47 w39 =>
  GuardP t44 true (fun (k28 : N1) => Run Try.prog (Instr.fieldAt 119 b_3 6) w39 k28) w39 fun t48 w40 =>
  GuardP t44 true (fun (k29 : N1) => Run Try.prog (Instr.loadAt 4 t48) w40 k29) w40 fun t49 w41 =>
  GuardP t44 true (fun (k30 : N1) => Run Try.prog (binSem Go.BinOp.eql 4 (Go.Operand.tmp 47) (Go.Operand.tmp 49) t47 t49) w41 k30) w41 fun t50 w42 =>
  PickP t44 t50 (Go.Value.bool false) w42 fun t51 w43 =>
  GuardP t51 true (fun (k31 : N1) => Run Try.prog (Instr.fieldAt 119 a_2 7) w43 k31) w43 fun t53 w44 =>
  GuardP t51 true (fun (k32 : N1) => Run Try.prog (Instr.loadAt 4 t53) w44 k32) w44 fun t54 w45 =>
  GuardP t51 true (fun (k33 : N1) => Run Try.prog (Instr.fieldAt 119 b_3 7) w45 k33) w45 fun t55 w46 =>
  GuardP t51 true (fun (k34 : N1) => Run Try.prog (Instr.loadAt 4 t55) w46 k34) w46 fun t56 w47 =>
  GuardP t51 true (fun (k35 : N1) => Run Try.prog (binSem Go.BinOp.eql 4 (Go.Operand.tmp 54) (Go.Operand.tmp 56) t54 t56) w47 k35) w47 fun t57 w48 =>
  PickP t51 t57 (Go.Value.bool false) w48 fun t58 w49 =>
  GuardP t58 true (fun (k36 : N1) => Run Try.prog (Instr.fieldAt 119 a_2 8) w49 k36) w49 fun t60 w50 =>
  GuardP t58 true (fun (k37 : N1) => Run Try.prog (Instr.loadAt 117 t60) w50 k37) w50 fun t61 w51 =>
  GuardP t58 true (fun (k38 : N1) => Run Try.prog (Instr.fieldAt 119 b_3 8) w51 k38) w51 fun t62 w52 =>
  GuardP t58 true (fun (k39 : N1) => Run Try.prog (Instr.loadAt 117 t62) w52 k39) w52 fun t63 w53 =>
  GuardP t58 true (fun (k40 : N1) => Run Try.prog (binSem Go.BinOp.eql 117 (Go.Operand.tmp 61) (Go.Operand.tmp 63) t61 t63) w53 k40) w53 fun t64 w54 =>
  PickP t58 t64 (Go.Value.bool false) w54 fun t65 w55 =>
  GuardP t65 true (fun (k41 : N1) => Run Try.prog (Instr.fieldAt 119 a_2 9) w55 k41) w55 fun t67 w56 =>
  GuardP t65 true (fun (k42 : N1) => Run Try.prog (Instr.loadAt 117 t67) w56 k42) w56 fun t68 w57 =>
  GuardP t65 true (fun (k43 : N1) => Run Try.prog (Instr.fieldAt 119 b_3 9) w57 k43) w57 fun t69 w58 =>
  GuardP t65 true (fun (k44 : N1) => Run Try.prog (Instr.loadAt 117 t69) w58 k44) w58 fun t70 w59 =>
  GuardP t65 true (fun (k45 : N1) => Run Try.prog (binSem Go.BinOp.eql 117 (Go.Operand.tmp 68) (Go.Operand.tmp 70) t68 t70) w59 k45) w59 fun t71 w60 =>
  PickP t65 t71 (Go.Value.bool false) w60 fun t72 w61 =>
  GuardP t72 true (fun (k46 : N1) => Run Try.prog (Instr.fieldAt 119 a_2 10) w61 k46) w61 fun t74 w62 =>
  GuardP t72 true (fun (k47 : N1) => Run Try.prog (Instr.loadAt 117 t74) w62 k47) w62 fun t75 w63 =>
  GuardP t72 true (fun (k48 : N1) => Run Try.prog (Instr.fieldAt 119 b_3 10) w63 k48) w63 fun t76 w64 =>
  GuardP t72 true (fun (k49 : N1) => Run Try.prog (Instr.loadAt 117 t76) w64 k49) w64 fun t77 w65 =>
  GuardP t72 true (fun (k50 : N1) => Run Try.prog (binSem Go.BinOp.eql 117 (Go.Operand.tmp 75) (Go.Operand.tmp 77) t75 t77) w65 k50) w65 fun t78 w66 =>
  PickP t72 t78 (Go.Value.bool false) w66 fun t79 w67 =>
  GuardP t79 true (fun (k51 : N1) => Run Try.prog (Instr.fieldAt 119 a_2 11) w67 k51) w67 fun t81 w68 =>
  GuardP t79 true (fun (k52 : N1) => Run Try.prog (Instr.loadAt 117 t81) w68 k52) w68 fun t82 w69 =>
  GuardP t79 true (fun (k53 : N1) => Run Try.prog (Instr.fieldAt 119 b_3 11) w69 k53) w69 fun t83 w70 =>
  GuardP t79 true (fun (k54 : N1) => Run Try.prog (Instr.loadAt 117 t83) w70 k54) w70 fun t84 w71 =>
  GuardP t79 true (fun (k55 : N1) => Run Try.prog (binSem Go.BinOp.eql 117 (Go.Operand.tmp 82) (Go.Operand.tmp 84) t82 t84) w71 k55) w71 fun t85 w72 =>
  PickP t79 t85 (Go.Value.bool false) w72 fun t86 w73 =>
  GuardP t86 true (fun (k56 : N1) => Run Try.prog (Instr.fieldAt 119 a_2 12) w73 k56) w73 fun t88 w74 =>
  GuardP t86 true (fun (k57 : N1) => Run Try.prog (Instr.loadAt 9 t88) w74 k57) w74 fun t89 w75 =>
  GuardP t86 true (fun (k58 : N1) => Run Try.prog (Instr.fieldAt 119 b_3 12) w75 k58) w75 fun t90 w76 =>
  GuardP t86 true (fun (k59 : N1) => Run Try.prog (Instr.loadAt 9 t90) w76 k59) w76 fun t91 w77 =>
  GuardP t86 true (fun (k60 : N1) => Run Try.prog (binSem Go.BinOp.eql 9 (Go.Operand.tmp 89) (Go.Operand.tmp 91) t89 t91) w77 k60) w77 fun t92 w78 =>
  PickP t86 t92 (Go.Value.bool false) w78 fun t93 w79 =>
  GuardP t93 true (fun (k61 : N1) => Run Try.prog (Instr.fieldAt 119 a_2 13) w79 k61) w79 fun t95 w80 =>
  GuardP t93 true (fun (k62 : N1) => Run Try.prog (Instr.loadAt 26 t95) w80 k62) w80 fun t96 w81 =>
  GuardP t93 true (fun (k63 : N1) => Run Try.prog (Instr.fieldAt 119 b_3 13) w81 k63) w81 fun t97 w82 =>
  GuardP t93 true (fun (k64 : N1) => Run Try.prog (Instr.loadAt 26 t97) w82 k64) w82 fun t98 w83 =>
  GuardP t93 true (fun (k65 : N1) => GoN Try.prog (callFunc 55 #[t96, t98]) w83 k65) w83 fun t99 w84 =>
  PickP t93 t99 (Go.Value.bool false) w84 fun t100 w85 =>
  R t100 w85
theorem S72_eq (a_0 b_1 : Value) (w : World) (R : Value → World → Prop) : vcFn Try.prog Try.f72 [a_0, b_1] w R = S72 a_0 b_1 w R := by kernel_rfl
theorem D72 {a_0 b_1 : Value} {w : World} {R : Value → World → Prop} (h : S72 a_0 b_1 w R) : Does Try.prog 72 [a_0, b_1] w R :=
  does_of_vc mixed Try.func72 (by kernel_rfl) (by kernel_rfl) ((S72_eq a_0 b_1 w R).mpr h)

/-- (*busbar/busbarkit.Book).Signal -/
def S73 (b_0 s_1 : Value) (w : World) (R : Value → World → Prop) : Prop :=
  Run Try.prog (Instr.box 119 s_1) w fun s_3 w1 =>
  Run Try.prog (Instr.fieldAt 119 s_3 13) w1 fun t5 w2 =>
  Run Try.prog (Instr.loadAt 26 t5) w2 fun t6 w3 =>
  GoN Try.prog (callFunc 60 #[b_0, t6]) w3 fun t7 w4 =>
  R (.tuple #[]) w4
theorem S73_eq (b_0 s_1 : Value) (w : World) (R : Value → World → Prop) : vcFn Try.prog Try.f73 [b_0, s_1] w R = S73 b_0 s_1 w R := by kernel_rfl
theorem D73 {b_0 s_1 : Value} {w : World} {R : Value → World → Prop} (h : S73 b_0 s_1 w R) : Does Try.prog 73 [b_0, s_1] w R :=
  does_of_vc mixed Try.func73 (by kernel_rfl) (by kernel_rfl) ((S73_eq b_0 s_1 w R).mpr h)

/-- busbar/busbarkit.LentSignals -/
def S74 (l_0 : Value) (w : World) (R : Value → World → Prop) : Prop :=
  JoinP 2 (fun (k1 : N2) =>
    LoopP 2 (fun (k2 : N2) => (fun (out_3 : Value) (i_4 : Value) (w1 : World) => 
      Run Try.prog (Builtin.len_ #[60] 3 #[l_0]) w1 fun t9 w2 =>
      Run Try.prog (binSem Go.BinOp.lss 3 (Go.Operand.tmp 7) (Go.Operand.tmp 9) i_4 t9) w2 fun t10 w3 =>
      CondP t10 0 (fun (k3 : N0) =>
        k3 w3)
      (fun (k4 : N0) =>
        k1 out_3 i_4 w3)
      (fun (w4 : World) => 
      JoinP 1 (fun (k5 : N1) =>
        Run Try.prog (Instr.indexAt 60 l_0 i_4) w4 fun t15 w5 =>
        Run Try.prog (Instr.loadAt 119 t15) w5 fun t16 w6 =>
        GoN Try.prog (callFunc 80 #[t16]) w6 fun t17 w7 =>
        Run Try.prog (Instr.alloc 119 true (.tuple #[])) w7 fun x_5 w8 =>
        RunU Try.prog (Instr.storeAt 119 x_5 t17) w8 fun w9 =>
        Run Try.prog (Instr.loadAt 119 x_5) w9 fun t19 w10 =>
        Run Try.prog (Instr.buildSlice 60 1 #[(0, t19)]) w10 fun t20 w11 =>
        Run Try.prog (Builtin.append_ #[60, 60] 60 #[out_3, t20]) w11 fun t21 w12 =>
        k5 t21 w12)
      (fun (out_3 : Value) (w13 : World) => 
      Run Try.prog (binSem Go.BinOp.add 3 (Go.Operand.tmp 11) (Go.Operand.const (Go.Value.int Go.IntKind.i64 1)) i_4 (Go.Value.int Go.IntKind.i64 1)) w13 fun t12 w14 =>
      k2 out_3 t12 w14))))
    [(Go.Value.slice none 0 0), (Go.Value.int Go.IntKind.i64 0)] w)
  (fun (out_3 : Value) (i_4 : Value) (w15 : World) => 
  JoinP 2 (fun (k6 : N2) =>
    LoopP 2 (fun (k7 : N2) => (fun (out_3 : Value) (i_6 : Value) (w16 : World) => 
      Run Try.prog (binSem Go.BinOp.lss 3 (Go.Operand.tmp 22) (Go.Operand.const (Go.Value.int Go.IntKind.i64 16)) i_6 (Go.Value.int Go.IntKind.i64 16)) w16 fun t23 w17 =>
      CondP t23 0 (fun (k8 : N0) =>
        k8 w17)
      (fun (k9 : N0) =>
        k6 out_3 i_6 w17)
      (fun (w18 : World) => 
      JoinP 1 (fun (k10 : N1) =>
        Run Try.prog (Instr.build 119 #[(4, (Go.Value.int Go.IntKind.i64 (-7)))]) w18 fun t27 w19 =>
        Run Try.prog (Instr.buildSlice 60 1 #[(0, t27)]) w19 fun t28 w20 =>
        Run Try.prog (Builtin.append_ #[60, 60] 60 #[out_3, t28]) w20 fun t29 w21 =>
        k10 t29 w21)
      (fun (out_3 : Value) (w22 : World) => 
      Run Try.prog (binSem Go.BinOp.add 3 (Go.Operand.tmp 24) (Go.Operand.const (Go.Value.int Go.IntKind.i64 1)) i_6 (Go.Value.int Go.IntKind.i64 1)) w22 fun t25 w23 =>
      k7 out_3 t25 w23))))
    [out_3, (Go.Value.int Go.IntKind.i64 0)] w15)
  (fun (out_3 : Value) (i_6 : Value) (w24 : World) => 
  Run Try.prog (Builtin.len_ #[60] 3 #[l_0]) w24 fun t32 w25 =>
  Run Try.prog (Instr.sliceAt 60 out_3 none (some t32) none) w25 fun t33 w26 =>
  R t33 w26))
theorem S74_eq (l_0 : Value) (w : World) (R : Value → World → Prop) : vcFn Try.prog Try.f74 [l_0] w R = S74 l_0 w R := by kernel_rfl
theorem D74 {l_0 : Value} {w : World} {R : Value → World → Prop} (h : S74 l_0 w R) : Does Try.prog 74 [l_0] w R :=
  does_of_vc mixed Try.func74 (by kernel_rfl) (by kernel_rfl) ((S74_eq l_0 w R).mpr h)

/-- busbar/busbarkit.LentRows -/
def S75 (l_0 : Value) (w : World) (R : Value → World → Prop) : Prop :=
  GoN Try.prog (callFunc 81 #[l_0]) w fun t5 w1 =>
  Run Try.prog (Builtin.len_ #[77] 3 #[l_0]) w1 fun t8 w2 =>
  Run Try.prog (Instr.sliceAt 77 t5 none (some t8) none) w2 fun t9 w3 =>
  R t9 w3
theorem S75_eq (l_0 : Value) (w : World) (R : Value → World → Prop) : vcFn Try.prog Try.f75 [l_0] w R = S75 l_0 w R := by kernel_rfl
theorem D75 {l_0 : Value} {w : World} {R : Value → World → Prop} (h : S75 l_0 w R) : Does Try.prog 75 [l_0] w R :=
  does_of_vc mixed Try.func75 (by kernel_rfl) (by kernel_rfl) ((S75_eq l_0 w R).mpr h)

/-- busbar/busbarkit.FullTexts -/
def S76 (l_0 : Value) (w : World) (R : Value → World → Prop) : Prop :=
  JoinP 2 (fun (k1 : N2) =>
    LoopP 2 (fun (k2 : N2) => (fun (out_3 : Value) (i_4 : Value) (w1 : World) => 
      Run Try.prog (Builtin.len_ #[26] 3 #[l_0]) w1 fun t8 w2 =>
      Run Try.prog (binSem Go.BinOp.lss 3 (Go.Operand.tmp 6) (Go.Operand.tmp 8) i_4 t8) w2 fun t9 w3 =>
      CondP t9 0 (fun (k3 : N0) =>
        k3 w3)
      (fun (k4 : N0) =>
        k1 out_3 i_4 w3)
      (fun (w4 : World) => 
      JoinP 1 (fun (k5 : N1) =>
        Run Try.prog (Instr.indexAt 26 l_0 i_4) w4 fun t15 w5 =>
        Run Try.prog (Instr.loadAt 9 t15) w5 fun t16 w6 =>
        Run Try.prog (Instr.buildSlice 26 1 #[(0, t16)]) w6 fun t17 w7 =>
        Run Try.prog (Builtin.append_ #[26, 26] 26 #[out_3, t17]) w7 fun t18 w8 =>
        k5 t18 w8)
      (fun (out_3 : Value) (w9 : World) => 
      Run Try.prog (binSem Go.BinOp.add 3 (Go.Operand.tmp 10) (Go.Operand.const (Go.Value.int Go.IntKind.i64 1)) i_4 (Go.Value.int Go.IntKind.i64 1)) w9 fun t11 w10 =>
      k2 out_3 t11 w10))))
    [(Go.Value.slice none 0 0), (Go.Value.int Go.IntKind.i64 0)] w)
  (fun (out_3 : Value) (i_4 : Value) (w11 : World) => 
  JoinP 2 (fun (k6 : N2) =>
    LoopP 2 (fun (k7 : N2) => (fun (out_3 : Value) (i_5 : Value) (w12 : World) => 
      Run Try.prog (binSem Go.BinOp.lss 3 (Go.Operand.tmp 19) (Go.Operand.const (Go.Value.int Go.IntKind.i64 16)) i_5 (Go.Value.int Go.IntKind.i64 16)) w12 fun t20 w13 =>
      CondP t20 0 (fun (k8 : N0) =>
        k8 w13)
      (fun (k9 : N0) =>
        k6 out_3 i_5 w13)
      (fun (w14 : World) => 
      JoinP 1 (fun (k10 : N1) =>
        GoN Try.prog (callFunc 63 #[(Go.Value.int Go.IntKind.i64 90), i_5]) w14 fun t25 w15 =>
        Run Try.prog (Instr.buildSlice 26 1 #[(0, t25)]) w15 fun t26 w16 =>
        Run Try.prog (Builtin.append_ #[26, 26] 26 #[out_3, t26]) w16 fun t27 w17 =>
        k10 t27 w17)
      (fun (out_3 : Value) (w18 : World) => 
      Run Try.prog (binSem Go.BinOp.add 3 (Go.Operand.tmp 21) (Go.Operand.const (Go.Value.int Go.IntKind.i64 1)) i_5 (Go.Value.int Go.IntKind.i64 1)) w18 fun t22 w19 =>
      k7 out_3 t22 w19))))
    [out_3, (Go.Value.int Go.IntKind.i64 0)] w11)
  (fun (out_3 : Value) (i_5 : Value) (w20 : World) => 
  R out_3 w20))
theorem S76_eq (l_0 : Value) (w : World) (R : Value → World → Prop) : vcFn Try.prog Try.f76 [l_0] w R = S76 l_0 w R := by kernel_rfl
theorem D76 {l_0 : Value} {w : World} {R : Value → World → Prop} (h : S76 l_0 w R) : Does Try.prog 76 [l_0] w R :=
  does_of_vc mixed Try.func76 (by kernel_rfl) (by kernel_rfl) ((S76_eq l_0 w R).mpr h)

/-- busbar/busbarkit.KeptSignals -/
def S77 (out_0 l_1 : Value) (w : World) (R : Value → World → Prop) : Prop :=
  Run Try.prog (Builtin.len_ #[60] 3 #[l_1]) w fun t10 w1 =>
  Run Try.prog (Builtin.len_ #[60] 3 #[out_0]) w1 fun t12 w2 =>
  Run Try.prog (binSem Go.BinOp.neq 3 (Go.Operand.tmp 12) (Go.Operand.tmp 13) t12 t10) w2 fun t14 w3 =>
  CondP t14 1 (fun (k1 : N1) =>
    R (Go.Value.bool false) w3)
  (fun (k2 : N1) =>
    k2 (Go.Value.bool false) w3)
  (fun (t4 : Value) (w4 : World) => 
  Run Try.prog (binSem Go.BinOp.add 3 (Go.Operand.tmp 16) (Go.Operand.const (Go.Value.int Go.IntKind.i64 16)) t10 (Go.Value.int Go.IntKind.i64 16)) w4 fun t17 w5 =>
  Run Try.prog (Instr.sliceAt 60 out_0 none (some t17) none) w5 fun t18 w6 =>
  JoinP 2 (fun (k3 : N2) =>
    LoopP 2 (fun (k4 : N2) => (fun (t4 : Value) (i_7 : Value) (w7 : World) => 
      Run Try.prog (binSem Go.BinOp.lss 3 (Go.Operand.tmp 19) (Go.Operand.tmp 20) i_7 t10) w7 fun t21 w8 =>
      CondP t21 0 (fun (k5 : N0) =>
        k5 w8)
      (fun (k6 : N0) =>
        k3 t4 i_7 w8)
      (fun (w9 : World) => 
      JoinP 1 (fun (k7 : N1) =>
        ∀ w10, Ext w9 w10 →
        RunQ Try.prog (Instr.indexAt 60 t18 i_7) w10 fun t26 =>
        RunQ Try.prog (Instr.loadAt 119 t26) w10 fun t27 =>
        RunQ Try.prog (Instr.indexAt 60 l_1 i_7) w10 fun t30 =>
        RunQ Try.prog (Instr.loadAt 119 t30) w10 fun t31 =>
        GoN Try.prog (callFunc 82 #[t27, t31]) w10 fun t32 w11 => Ext w10 w11 ∧
        RunQ Try.prog (Op.unary Go.UnOp.not t32) w10 fun t33 =>
        CondP t33 1 (fun (k8 : N1) =>
          R (Go.Value.bool false) w11)
        (fun (k9 : N1) =>
          k9 t4 w11)
        (fun (t4 : Value) (w12 : World) => 
        k7 t4 w12))
      (fun (t4 : Value) (w13 : World) => 
      Run Try.prog (binSem Go.BinOp.add 3 (Go.Operand.tmp 22) (Go.Operand.const (Go.Value.int Go.IntKind.i64 1)) i_7 (Go.Value.int Go.IntKind.i64 1)) w13 fun t23 w14 =>
      k4 t4 t23 w14))))
    [t4, (Go.Value.int Go.IntKind.i64 0)] w6)
  (fun (t4 : Value) (i_7 : Value) (w15 : World) => 
  JoinP 2 (fun (k10 : N2) =>
    LoopP 2 (fun (k11 : N2) => (fun (t4 : Value) (i_8 : Value) (w16 : World) => 
      Run Try.prog (Builtin.len_ #[60] 3 #[t18]) w16 fun t37 w17 =>
      Run Try.prog (binSem Go.BinOp.lss 3 (Go.Operand.tmp 35) (Go.Operand.tmp 37) i_8 t37) w17 fun t38 w18 =>
      CondP t38 0 (fun (k12 : N0) =>
        k12 w18)
      (fun (k13 : N0) =>
        k10 t4 i_8 w18)
      (fun (w19 : World) => 
      JoinP 1 (fun (k14 : N1) =>
        Run Try.prog (Instr.indexAt 60 t18 i_8) w19 fun t43 w20 =>
        Run Try.prog (Instr.fieldAt 119 t43 4) w20 fun t44 w21 =>
        Run Try.prog (Instr.loadAt 3 t44) w21 fun t45 w22 =>
        Run Try.prog (binSem Go.BinOp.eql 3 (Go.Operand.tmp 45) (Go.Operand.const (Go.Value.int Go.IntKind.i64 (-7))) t45 (Go.Value.int Go.IntKind.i64 (-7))) w22 fun t46 w23 =>
        Run Try.prog (Op.unary Go.UnOp.not t46) w23 fun t47 w24 =>
        CondP t47 1 (fun (k15 : N1) =>
          R (Go.Value.bool false) w24)
        (fun (k16 : N1) =>
          k16 t4 w24)
        (fun (t4 : Value) (w25 : World) => 
        k14 t4 w25))
      (fun (t4 : Value) (w26 : World) => 
      Run Try.prog (binSem Go.BinOp.add 3 (Go.Operand.tmp 39) (Go.Operand.const (Go.Value.int Go.IntKind.i64 1)) i_8 (Go.Value.int Go.IntKind.i64 1)) w26 fun t40 w27 =>
      k11 t4 t40 w27))))
    [t4, t10] w15)
  (fun (t4 : Value) (i_8 : Value) (w28 : World) => 
  R (Go.Value.bool true) w28)))
theorem S77_eq (out_0 l_1 : Value) (w : World) (R : Value → World → Prop) : vcFn Try.prog Try.f77 [out_0, l_1] w R = S77 out_0 l_1 w R := by kernel_rfl
theorem D77 {out_0 l_1 : Value} {w : World} {R : Value → World → Prop} (h : S77 out_0 l_1 w R) : Does Try.prog 77 [out_0, l_1] w R :=
  does_of_vc mixed Try.func77 (by kernel_rfl) (by kernel_rfl) ((S77_eq out_0 l_1 w R).mpr h)

/-- busbar/busbarkit.KeptRows -/
def S78 (out_0 l_1 : Value) (w : World) (R : Value → World → Prop) : Prop :=
  Run Try.prog (Builtin.len_ #[77] 3 #[out_0]) w fun t6 w1 =>
  Run Try.prog (Builtin.len_ #[77] 3 #[l_1]) w1 fun t8 w2 =>
  Run Try.prog (binSem Go.BinOp.neq 3 (Go.Operand.tmp 6) (Go.Operand.tmp 8) t6 t8) w2 fun t9 w3 =>
  CondP t9 1 (fun (k1 : N1) =>
    R (Go.Value.bool false) w3)
  (fun (k2 : N1) =>
    k2 (Go.Value.bool false) w3)
  (fun (t4 : Value) (w4 : World) => 
  Run Try.prog (Builtin.len_ #[77] 3 #[l_1]) w4 fun t12 w5 =>
  Run Try.prog (binSem Go.BinOp.add 3 (Go.Operand.tmp 12) (Go.Operand.const (Go.Value.int Go.IntKind.i64 16)) t12 (Go.Value.int Go.IntKind.i64 16)) w5 fun t13 w6 =>
  Run Try.prog (Instr.sliceAt 77 out_0 none (some t13) none) w6 fun t14 w7 =>
  GoN Try.prog (callFunc 83 #[t14, l_1]) w7 fun t16 w8 =>
  R t16 w8)
theorem S78_eq (out_0 l_1 : Value) (w : World) (R : Value → World → Prop) : vcFn Try.prog Try.f78 [out_0, l_1] w R = S78 out_0 l_1 w R := by kernel_rfl
theorem D78 {out_0 l_1 : Value} {w : World} {R : Value → World → Prop} (h : S78 out_0 l_1 w R) : Does Try.prog 78 [out_0, l_1] w R :=
  does_of_vc mixed Try.func78 (by kernel_rfl) (by kernel_rfl) ((S78_eq out_0 l_1 w R).mpr h)

/-- busbar/busbarkit.KeptFullTexts -/
def S79 (out_0 l_1 : Value) (w : World) (R : Value → World → Prop) : Prop :=
  Run Try.prog (Builtin.len_ #[26] 3 #[out_0]) w fun t8 w1 =>
  Run Try.prog (Builtin.len_ #[26] 3 #[l_1]) w1 fun t10 w2 =>
  Run Try.prog (binSem Go.BinOp.add 3 (Go.Operand.tmp 10) (Go.Operand.const (Go.Value.int Go.IntKind.i64 16)) t10 (Go.Value.int Go.IntKind.i64 16)) w2 fun t11 w3 =>
  Run Try.prog (binSem Go.BinOp.neq 3 (Go.Operand.tmp 8) (Go.Operand.tmp 11) t8 t11) w3 fun t12 w4 =>
  CondP t12 1 (fun (k1 : N1) =>
    R (Go.Value.bool false) w4)
  (fun (k2 : N1) =>
    k2 (Go.Value.bool false) w4)
  (fun (t4 : Value) (w5 : World) => 
  JoinP 2 (fun (k3 : N2) =>
    LoopP 2 (fun (k4 : N2) => (fun (t4 : Value) (i_5 : Value) (w6 : World) => 
      Run Try.prog (Builtin.len_ #[26] 3 #[out_0]) w6 fun t15 w7 =>
      Run Try.prog (binSem Go.BinOp.lss 3 (Go.Operand.tmp 13) (Go.Operand.tmp 15) i_5 t15) w7 fun t16 w8 =>
      CondP t16 0 (fun (k5 : N0) =>
        k5 w8)
      (fun (k6 : N0) =>
        k3 t4 i_5 w8)
      (fun (w9 : World) => 
      JoinP 1 (fun (k7 : N1) =>
        Run Try.prog (Builtin.len_ #[26] 3 #[l_1]) w9 fun t21 w10 =>
        Run Try.prog (binSem Go.BinOp.sub 3 (Go.Operand.tmp 19) (Go.Operand.tmp 21) i_5 t21) w10 fun t22 w11 =>
        GoN Try.prog (callFunc 63 #[(Go.Value.int Go.IntKind.i64 90), t22]) w11 fun t23 w12 =>
        Run Try.prog (Builtin.len_ #[26] 3 #[l_1]) w12 fun t26 w13 =>
        Run Try.prog (binSem Go.BinOp.lss 3 (Go.Operand.tmp 24) (Go.Operand.tmp 26) i_5 t26) w13 fun t27 w14 =>
        CondP t27 1 (fun (k8 : N1) =>
          Run Try.prog (Instr.indexAt 26 l_1 i_5) w14 fun t30 w15 =>
          Run Try.prog (Instr.loadAt 9 t30) w15 fun t31 w16 =>
          k8 t31 w16)
        (fun (k9 : N1) =>
          k9 t23 w14)
        (fun (want_6 : Value) (w17 : World) => 
        Run Try.prog (Instr.indexAt 26 out_0 i_5) w17 fun t34 w18 =>
        Run Try.prog (Instr.loadAt 9 t34) w18 fun t35 w19 =>
        Run Try.prog (binSem Go.BinOp.neq 9 (Go.Operand.tmp 35) (Go.Operand.tmp 36) t35 want_6) w19 fun t37 w20 =>
        CondP t37 1 (fun (k10 : N1) =>
          R (Go.Value.bool false) w20)
        (fun (k11 : N1) =>
          k11 t4 w20)
        (fun (t4 : Value) (w21 : World) => 
        k7 t4 w21)))
      (fun (t4 : Value) (w22 : World) => 
      Run Try.prog (binSem Go.BinOp.add 3 (Go.Operand.tmp 17) (Go.Operand.const (Go.Value.int Go.IntKind.i64 1)) i_5 (Go.Value.int Go.IntKind.i64 1)) w22 fun t18 w23 =>
      k4 t4 t18 w23))))
    [t4, (Go.Value.int Go.IntKind.i64 0)] w5)
  (fun (t4 : Value) (i_5 : Value) (w24 : World) => 
  R (Go.Value.bool true) w24))
theorem S79_eq (out_0 l_1 : Value) (w : World) (R : Value → World → Prop) : vcFn Try.prog Try.f79 [out_0, l_1] w R = S79 out_0 l_1 w R := by kernel_rfl
theorem D79 {out_0 l_1 : Value} {w : World} {R : Value → World → Prop} (h : S79 out_0 l_1 w R) : Does Try.prog 79 [out_0, l_1] w R :=
  does_of_vc mixed Try.func79 (by kernel_rfl) (by kernel_rfl) ((S79_eq out_0 l_1 w R).mpr h)

/-- busbar/busbarkit.LentSignal -/
def S80 (s_0 : Value) (w : World) (R : Value → World → Prop) : Prop :=
  Run Try.prog (Instr.box 119 s_0) w fun s_1 w1 =>
  Run Try.prog (Instr.alloc 119 true (.tuple #[])) w1 fun t2 w2 =>
  Run Try.prog (Instr.loadAt 119 s_1) w2 fun t4 w3 =>
  Run Try.prog (Instr.alloc 119 true (.tuple #[])) w3 fun x_3 w4 =>
  RunU Try.prog (Instr.storeAt 119 x_3 t4) w4 fun w5 =>
  Run Try.prog (Instr.fieldAt 119 s_1 13) w5 fun t5 w6 =>
  Run Try.prog (Instr.loadAt 26 t5) w6 fun t6 w7 =>
  GoN Try.prog (callFunc 51 #[t6]) w7 fun t7 w8 =>
  Run Try.prog (Instr.fieldAt 119 x_3 13) w8 fun t8 w9 =>
  RunU Try.prog (Instr.storeAt 26 t8 t7) w9 fun w10 =>
  Run Try.prog (Instr.loadAt 119 x_3) w10 fun t9 w11 =>
  RunU Try.prog (Instr.storeAt 119 t2 t9) w11 fun w12 =>
  resK Try.prog t2 119 w12 fun r0 =>
  R r0 w12
theorem S80_eq (s_0 : Value) (w : World) (R : Value → World → Prop) : vcFn Try.prog Try.f80 [s_0] w R = S80 s_0 w R := by kernel_rfl
theorem D80 {s_0 : Value} {w : World} {R : Value → World → Prop} (h : S80 s_0 w R) : Does Try.prog 80 [s_0] w R :=
  does_of_vc mixed Try.func80 (by kernel_rfl) (by kernel_rfl) ((S80_eq s_0 w R).mpr h)

/-- busbar/busbarkit.FullRows -/
def S81 (l_0 : Value) (w : World) (R : Value → World → Prop) : Prop :=
  JoinP 2 (fun (k1 : N2) =>
    LoopP 2 (fun (k2 : N2) => (fun (out_3 : Value) (i_4 : Value) (w1 : World) => 
      Run Try.prog (Builtin.len_ #[77] 3 #[l_0]) w1 fun t8 w2 =>
      Run Try.prog (binSem Go.BinOp.lss 3 (Go.Operand.tmp 6) (Go.Operand.tmp 8) i_4 t8) w2 fun t9 w3 =>
      CondP t9 0 (fun (k3 : N0) =>
        k3 w3)
      (fun (k4 : N0) =>
        k1 out_3 i_4 w3)
      (fun (w4 : World) => 
      JoinP 1 (fun (k5 : N1) =>
        Run Try.prog (Instr.indexAt 77 l_0 i_4) w4 fun t15 w5 =>
        Run Try.prog (Instr.loadAt 122 t15) w5 fun t16 w6 =>
        Run Try.prog (Instr.buildSlice 77 1 #[(0, t16)]) w6 fun t17 w7 =>
        Run Try.prog (Builtin.append_ #[77, 77] 77 #[out_3, t17]) w7 fun t18 w8 =>
        k5 t18 w8)
      (fun (out_3 : Value) (w9 : World) => 
      Run Try.prog (binSem Go.BinOp.add 3 (Go.Operand.tmp 10) (Go.Operand.const (Go.Value.int Go.IntKind.i64 1)) i_4 (Go.Value.int Go.IntKind.i64 1)) w9 fun t11 w10 =>
      k2 out_3 t11 w10))))
    [(Go.Value.slice none 0 0), (Go.Value.int Go.IntKind.i64 0)] w)
  (fun (out_3 : Value) (i_4 : Value) (w11 : World) => 
  JoinP 2 (fun (k6 : N2) =>
    LoopP 2 (fun (k7 : N2) => (fun (out_3 : Value) (i_5 : Value) (w12 : World) => 
      Run Try.prog (binSem Go.BinOp.lss 3 (Go.Operand.tmp 19) (Go.Operand.const (Go.Value.int Go.IntKind.i64 16)) i_5 (Go.Value.int Go.IntKind.i64 16)) w12 fun t20 w13 =>
      CondP t20 0 (fun (k8 : N0) =>
        k8 w13)
      (fun (k9 : N0) =>
        k6 out_3 i_5 w13)
      (fun (w14 : World) => 
      JoinP 1 (fun (k10 : N1) =>
        GoN Try.prog (callFunc 67 #[(Go.Value.int Go.IntKind.i64 90), i_5]) w14 fun t25 w15 =>
        Run Try.prog (Instr.buildSlice 77 1 #[(0, t25)]) w15 fun t26 w16 =>
        Run Try.prog (Builtin.append_ #[77, 77] 77 #[out_3, t26]) w16 fun t27 w17 =>
        k10 t27 w17)
      (fun (out_3 : Value) (w18 : World) => 
      Run Try.prog (binSem Go.BinOp.add 3 (Go.Operand.tmp 21) (Go.Operand.const (Go.Value.int Go.IntKind.i64 1)) i_5 (Go.Value.int Go.IntKind.i64 1)) w18 fun t22 w19 =>
      k7 out_3 t22 w19))))
    [out_3, (Go.Value.int Go.IntKind.i64 0)] w11)
  (fun (out_3 : Value) (i_5 : Value) (w20 : World) => 
  R out_3 w20))
theorem S81_eq (l_0 : Value) (w : World) (R : Value → World → Prop) : vcFn Try.prog Try.f81 [l_0] w R = S81 l_0 w R := by kernel_rfl
theorem D81 {l_0 : Value} {w : World} {R : Value → World → Prop} (h : S81 l_0 w R) : Does Try.prog 81 [l_0] w R :=
  does_of_vc mixed Try.func81 (by kernel_rfl) (by kernel_rfl) ((S81_eq l_0 w R).mpr h)

/-- busbar/busbarkit.KeptSignal -/
def S82 (x_0 s_1 : Value) (w : World) (R : Value → World → Prop) : Prop :=
  Run Try.prog (Instr.box 119 x_0) w fun x_2 w1 =>
  Run Try.prog (Instr.box 119 s_1) w1 fun s_3 w2 =>
  Run Try.prog (Instr.fieldAt 119 x_2 0) w2 fun t5 w3 =>
  Run Try.prog (Instr.loadAt 23 t5) w3 fun t6 w4 =>
  Run Try.prog (Instr.fieldAt 119 s_3 0) w4 fun t7 w5 =>
  Run Try.prog (Instr.loadAt 23 t7) w5 fun t8 w6 =>
  Run Try.prog (binSem Go.BinOp.eql 23 (Go.Operand.tmp 6) (Go.Operand.tmp 8) t6 t8) w6 fun t9 w7 =>
  GuardP t9 true (fun (k1 : N1) => Run Try.prog (Instr.fieldAt 119 x_2 1) w7 k1) w7 fun t11 w8 =>
  GuardP t9 true (fun (k2 : N1) => Run Try.prog (Instr.loadAt 9 t11) w8 k2) w8 fun t12 w9 =>
  GuardP t9 true (fun (k3 : N1) => Run Try.prog (Instr.fieldAt 119 s_3 1) w9 k3) w9 fun t13 w10 =>
  GuardP t9 true (fun (k4 : N1) => Run Try.prog (Instr.loadAt 9 t13) w10 k4) w10 fun t14 w11 =>
  GuardP t9 true (fun (k5 : N1) => Run Try.prog (binSem Go.BinOp.eql 9 (Go.Operand.tmp 12) (Go.Operand.tmp 14) t12 t14) w11 k5) w11 fun t15 w12 =>
  PickP t9 t15 (Go.Value.bool false) w12 fun t16 w13 =>
  GuardP t16 true (fun (k6 : N1) => Run Try.prog (Instr.fieldAt 119 x_2 2) w13 k6) w13 fun t18 w14 =>
  GuardP t16 true (fun (k7 : N1) => Run Try.prog (Instr.loadAt 3 t18) w14 k7) w14 fun t19 w15 =>
  GuardP t16 true (fun (k8 : N1) => Run Try.prog (Instr.fieldAt 119 s_3 2) w15 k8) w15 fun t20 w16 =>
  GuardP t16 true (fun (k9 : N1) => Run Try.prog (Instr.loadAt 3 t20) w16 k9) w16 fun t21 w17 =>
  GuardP t16 true (fun (k10 : N1) => Run Try.prog (binSem Go.BinOp.eql 3 (Go.Operand.tmp 19) (Go.Operand.tmp 21) t19 t21) w17 k10) w17 fun t22 w18 =>
  PickP t16 t22 (Go.Value.bool false) w18 fun t23 w19 =>
  GuardP t23 true (fun (k11 : N1) => Run Try.prog (Instr.fieldAt 119 x_2 3) w19 k11) w19 fun t25 w20 =>
  GuardP t23 true (fun (k12 : N1) => Run Try.prog (Instr.loadAt 115 t25) w20 k12) w20 fun t26 w21 =>
  GuardP t23 true (fun (k13 : N1) => Run Try.prog (Instr.fieldAt 119 s_3 3) w21 k13) w21 fun t27 w22 =>
  GuardP t23 true (fun (k14 : N1) => Run Try.prog (Instr.loadAt 115 t27) w22 k14) w22 fun t28 w23 =>
  GuardP t23 true (fun (k15 : N1) => Run Try.prog (binSem Go.BinOp.eql 115 (Go.Operand.tmp 26) (Go.Operand.tmp 28) t26 t28) w23 k15) w23 fun t29 w24 =>
  PickP t23 t29 (Go.Value.bool false) w24 fun t30 w25 =>
  GuardP t30 true (fun (k16 : N1) => Run Try.prog (Instr.fieldAt 119 x_2 4) w25 k16) w25 fun t32 w26 =>
  GuardP t30 true (fun (k17 : N1) => Run Try.prog (Instr.loadAt 3 t32) w26 k17) w26 fun t33 w27 =>
  GuardP t30 true (fun (k18 : N1) => Run Try.prog (Instr.fieldAt 119 s_3 4) w27 k18) w27 fun t34 w28 =>
  GuardP t30 true (fun (k19 : N1) => Run Try.prog (Instr.loadAt 3 t34) w28 k19) w28 fun t35 w29 =>
  GuardP t30 true (fun (k20 : N1) => Run Try.prog (binSem Go.BinOp.eql 3 (Go.Operand.tmp 33) (Go.Operand.tmp 35) t33 t35) w29 k20) w29 fun t36 w30 =>
  PickP t30 t36 (Go.Value.bool false) w30 fun t37 w31 =>
  GuardP t37 true (fun (k21 : N1) => Run Try.prog (Instr.fieldAt 119 x_2 5) w31 k21) w31 fun t39 w32 =>
  GuardP t37 true (fun (k22 : N1) => Run Try.prog (Instr.loadAt 3 t39) w32 k22) w32 fun t40 w33 =>
  GuardP t37 true (fun (k23 : N1) => Run Try.prog (Instr.fieldAt 119 s_3 5) w33 k23) w33 fun t41 w34 =>
  GuardP t37 true (fun (k24 : N1) => Run Try.prog (Instr.loadAt 3 t41) w34 k24) w34 fun t42 w35 =>
  GuardP t37 true (fun (k25 : N1) => Run Try.prog (binSem Go.BinOp.eql 3 (Go.Operand.tmp 40) (Go.Operand.tmp 42) t40 t42) w35 k25) w35 fun t43 w36 =>
  PickP t37 t43 (Go.Value.bool false) w36 fun t44 w37 =>
  GuardP t44 true (fun (k26 : N1) => Run Try.prog (Instr.fieldAt 119 x_2 6) w37 k26) w37 fun t46 w38 =>
  GuardP t44 true (fun (k27 : N1) => Run Try.prog (Instr.loadAt 4 t46) w38 k27) w38 fun t47 w39 =>
  GuardP t44 true (fun (k28 : N1) => Run Try.prog (Instr.fieldAt 119 s_3 6) w39 k28) w39 fun t48 w40 =>
  GuardP t44 true (fun (k29 : N1) => Run Try.prog (Instr.loadAt 4 t48) w40 k29) w40 fun t49 w41 =>
  GuardP t44 true (fun (k30 : N1) => Run Try.prog (binSem Go.BinOp.eql 4 (Go.Operand.tmp 47) (Go.Operand.tmp 49) t47 t49) w41 k30) w41 fun t50 w42 =>
  PickP t44 t50 (Go.Value.bool false) w42 fun t51 w43 =>
  GuardP t51 true (fun (k31 : N1) => Run Try.prog (Instr.fieldAt 119 x_2 7) w43 k31) w43 fun t53 w44 =>
  GuardP t51 true (fun (k32 : N1) => Run Try.prog (Instr.loadAt 4 t53) w44 k32) w44 fun t54 w45 =>
  GuardP t51 true (fun (k33 : N1) => Run Try.prog (Instr.fieldAt 119 s_3 7) w45 k33) w45 fun t55 w46 =>
  GuardP t51 true (fun (k34 : N1) => Run Try.prog (Instr.loadAt 4 t55) w46 k34) w46 fun t56 w47 =>
  GuardP t51 true (fun (k35 : N1) => Run Try.prog (binSem Go.BinOp.eql 4 (Go.Operand.tmp 54) (Go.Operand.tmp 56) t54 t56) w47 k35) w47 fun t57 w48 =>
  PickP t51 t57 (Go.Value.bool false) w48 fun t58 w49 =>
  GuardP t58 true (fun (k36 : N1) => Run Try.prog (Instr.fieldAt 119 x_2 8) w49 k36) w49 fun t60 w50 =>
  GuardP t58 true (fun (k37 : N1) => Run Try.prog (Instr.loadAt 117 t60) w50 k37) w50 fun t61 w51 =>
  GuardP t58 true (fun (k38 : N1) => Run Try.prog (Instr.fieldAt 119 s_3 8) w51 k38) w51 fun t62 w52 =>
  GuardP t58 true (fun (k39 : N1) => Run Try.prog (Instr.loadAt 117 t62) w52 k39) w52 fun t63 w53 =>
  GuardP t58 true (fun (k40 : N1) => Run Try.prog (binSem Go.BinOp.eql 117 (Go.Operand.tmp 61) (Go.Operand.tmp 63) t61 t63) w53 k40) w53 fun t64 w54 =>
  PickP t58 t64 (Go.Value.bool false) w54 fun t65 w55 =>
  GuardP t65 true (fun (k41 : N1) => Run Try.prog (Instr.fieldAt 119 x_2 9) w55 k41) w55 fun t67 w56 =>
  GuardP t65 true (fun (k42 : N1) => Run Try.prog (Instr.loadAt 117 t67) w56 k42) w56 fun t68 w57 =>
  GuardP t65 true (fun (k43 : N1) => Run Try.prog (Instr.fieldAt 119 s_3 9) w57 k43) w57 fun t69 w58 =>
  GuardP t65 true (fun (k44 : N1) => Run Try.prog (Instr.loadAt 117 t69) w58 k44) w58 fun t70 w59 =>
  GuardP t65 true (fun (k45 : N1) => Run Try.prog (binSem Go.BinOp.eql 117 (Go.Operand.tmp 68) (Go.Operand.tmp 70) t68 t70) w59 k45) w59 fun t71 w60 =>
  PickP t65 t71 (Go.Value.bool false) w60 fun t72 w61 =>
  GuardP t72 true (fun (k46 : N1) => Run Try.prog (Instr.fieldAt 119 x_2 10) w61 k46) w61 fun t74 w62 =>
  GuardP t72 true (fun (k47 : N1) => Run Try.prog (Instr.loadAt 117 t74) w62 k47) w62 fun t75 w63 =>
  GuardP t72 true (fun (k48 : N1) => Run Try.prog (Instr.fieldAt 119 s_3 10) w63 k48) w63 fun t76 w64 =>
  GuardP t72 true (fun (k49 : N1) => Run Try.prog (Instr.loadAt 117 t76) w64 k49) w64 fun t77 w65 =>
  GuardP t72 true (fun (k50 : N1) => Run Try.prog (binSem Go.BinOp.eql 117 (Go.Operand.tmp 75) (Go.Operand.tmp 77) t75 t77) w65 k50) w65 fun t78 w66 =>
  PickP t72 t78 (Go.Value.bool false) w66 fun t79 w67 =>
  GuardP t79 true (fun (k51 : N1) => Run Try.prog (Instr.fieldAt 119 x_2 11) w67 k51) w67 fun t81 w68 =>
  GuardP t79 true (fun (k52 : N1) => Run Try.prog (Instr.loadAt 117 t81) w68 k52) w68 fun t82 w69 =>
  GuardP t79 true (fun (k53 : N1) => Run Try.prog (Instr.fieldAt 119 s_3 11) w69 k53) w69 fun t83 w70 =>
  GuardP t79 true (fun (k54 : N1) => Run Try.prog (Instr.loadAt 117 t83) w70 k54) w70 fun t84 w71 =>
  GuardP t79 true (fun (k55 : N1) => Run Try.prog (binSem Go.BinOp.eql 117 (Go.Operand.tmp 82) (Go.Operand.tmp 84) t82 t84) w71 k55) w71 fun t85 w72 =>
  PickP t79 t85 (Go.Value.bool false) w72 fun t86 w73 =>
  GuardP t86 true (fun (k56 : N1) => Run Try.prog (Instr.fieldAt 119 x_2 12) w73 k56) w73 fun t88 w74 =>
  GuardP t86 true (fun (k57 : N1) => Run Try.prog (Instr.loadAt 9 t88) w74 k57) w74 fun t89 w75 =>
  GuardP t86 true (fun (k58 : N1) => Run Try.prog (Instr.fieldAt 119 s_3 12) w75 k58) w75 fun t90 w76 =>
  GuardP t86 true (fun (k59 : N1) => Run Try.prog (Instr.loadAt 9 t90) w76 k59) w76 fun t91 w77 =>
  GuardP t86 true (fun (k60 : N1) => Run Try.prog (binSem Go.BinOp.eql 9 (Go.Operand.tmp 89) (Go.Operand.tmp 91) t89 t91) w77 k60) w77 fun t92 w78 =>
  PickP t86 t92 (Go.Value.bool false) w78 fun t93 w79 =>
  GuardP t93 true (fun (k61 : N1) => Run Try.prog (Instr.fieldAt 119 x_2 13) w79 k61) w79 fun t95 w80 =>
  GuardP t93 true (fun (k62 : N1) => Run Try.prog (Instr.loadAt 26 t95) w80 k62) w80 fun t96 w81 =>
  GuardP t93 true (fun (k63 : N1) => Run Try.prog (Instr.fieldAt 119 s_3 13) w81 k63) w81 fun t97 w82 =>
  GuardP t93 true (fun (k64 : N1) => Run Try.prog (Instr.loadAt 26 t97) w82 k64) w82 fun t98 w83 =>
  GuardP t93 true (fun (k65 : N1) => GoN Try.prog (callFunc 59 #[t96, t98]) w83 k65) w83 fun t99 w84 =>
  PickP t93 t99 (Go.Value.bool false) w84 fun t100 w85 =>
  R t100 w85
theorem S82_eq (x_0 s_1 : Value) (w : World) (R : Value → World → Prop) : vcFn Try.prog Try.f82 [x_0, s_1] w R = S82 x_0 s_1 w R := by kernel_rfl
theorem D82 {x_0 s_1 : Value} {w : World} {R : Value → World → Prop} (h : S82 x_0 s_1 w R) : Does Try.prog 82 [x_0, s_1] w R :=
  does_of_vc mixed Try.func82 (by kernel_rfl) (by kernel_rfl) ((S82_eq x_0 s_1 w R).mpr h)

/-- busbar/busbarkit.KeptFullRows -/
def S83 (out_0 l_1 : Value) (w : World) (R : Value → World → Prop) : Prop :=
  Run Try.prog (Builtin.len_ #[77] 3 #[out_0]) w fun t8 w1 =>
  Run Try.prog (Builtin.len_ #[77] 3 #[l_1]) w1 fun t10 w2 =>
  Run Try.prog (binSem Go.BinOp.add 3 (Go.Operand.tmp 10) (Go.Operand.const (Go.Value.int Go.IntKind.i64 16)) t10 (Go.Value.int Go.IntKind.i64 16)) w2 fun t11 w3 =>
  Run Try.prog (binSem Go.BinOp.neq 3 (Go.Operand.tmp 8) (Go.Operand.tmp 11) t8 t11) w3 fun t12 w4 =>
  CondP t12 1 (fun (k1 : N1) =>
    R (Go.Value.bool false) w4)
  (fun (k2 : N1) =>
    k2 (Go.Value.bool false) w4)
  (fun (t4 : Value) (w5 : World) => 
  JoinP 2 (fun (k3 : N2) =>
    LoopP 2 (fun (k4 : N2) => (fun (t4 : Value) (i_5 : Value) (w6 : World) => 
      Run Try.prog (Builtin.len_ #[77] 3 #[out_0]) w6 fun t15 w7 =>
      Run Try.prog (binSem Go.BinOp.lss 3 (Go.Operand.tmp 13) (Go.Operand.tmp 15) i_5 t15) w7 fun t16 w8 =>
      CondP t16 0 (fun (k5 : N0) =>
        k5 w8)
      (fun (k6 : N0) =>
        k3 t4 i_5 w8)
      (fun (w9 : World) => 
      JoinP 1 (fun (k7 : N1) =>
        Run Try.prog (Builtin.len_ #[77] 3 #[l_1]) w9 fun t21 w10 =>
        Run Try.prog (binSem Go.BinOp.sub 3 (Go.Operand.tmp 19) (Go.Operand.tmp 21) i_5 t21) w10 fun t22 w11 =>
        GoN Try.prog (callFunc 67 #[(Go.Value.int Go.IntKind.i64 90), t22]) w11 fun t23 w12 =>
        Run Try.prog (Instr.alloc 122 true (.tuple #[])) w12 fun want_6 w13 =>
        RunU Try.prog (Instr.storeAt 122 want_6 t23) w13 fun w14 =>
        Run Try.prog (Builtin.len_ #[77] 3 #[l_1]) w14 fun t26 w15 =>
        Run Try.prog (binSem Go.BinOp.lss 3 (Go.Operand.tmp 24) (Go.Operand.tmp 26) i_5 t26) w15 fun t27 w16 =>
        CondP t27 0 (fun (k8 : N0) =>
          Run Try.prog (Instr.indexAt 77 l_1 i_5) w16 fun t30 w17 =>
          Run Try.prog (Instr.loadAt 122 t30) w17 fun t31 w18 =>
          RunU Try.prog (Instr.storeAt 122 want_6 t31) w18 fun w19 =>
          k8 w19)
        (fun (k9 : N0) =>
          k9 w16)
        (fun (w20 : World) => 
        ∀ w21, Ext w20 w21 →
        RunQ Try.prog (Instr.indexAt 77 out_0 i_5) w21 fun t34 =>
        RunQ Try.prog (Instr.loadAt 122 t34) w21 fun t35 =>
        RunQ Try.prog (Instr.loadAt 122 want_6) w21 fun t36 =>
        RunQ Try.prog (binSem Go.BinOp.neq 122 (Go.Operand.tmp 35) (Go.Operand.tmp 36) t35 t36) w21 fun t37 =>
        CondP t37 1 (fun (k10 : N1) =>
          R (Go.Value.bool false) w21)
        (fun (k11 : N1) =>
          k11 t4 w21)
        (fun (t4 : Value) (w22 : World) => 
        k7 t4 w22)))
      (fun (t4 : Value) (w23 : World) => 
      Run Try.prog (binSem Go.BinOp.add 3 (Go.Operand.tmp 17) (Go.Operand.const (Go.Value.int Go.IntKind.i64 1)) i_5 (Go.Value.int Go.IntKind.i64 1)) w23 fun t18 w24 =>
      k4 t4 t18 w24))))
    [t4, (Go.Value.int Go.IntKind.i64 0)] w5)
  (fun (t4 : Value) (i_5 : Value) (w25 : World) => 
  R (Go.Value.bool true) w25))
theorem S83_eq (out_0 l_1 : Value) (w : World) (R : Value → World → Prop) : vcFn Try.prog Try.f83 [out_0, l_1] w R = S83 out_0 l_1 w R := by kernel_rfl
theorem D83 {out_0 l_1 : Value} {w : World} {R : Value → World → Prop} (h : S83 out_0 l_1 w R) : Does Try.prog 83 [out_0, l_1] w R :=
  does_of_vc mixed Try.func83 (by kernel_rfl) (by kernel_rfl) ((S83_eq out_0 l_1 w R).mpr h)

end Go.Proofs.Ytmgleeoecdodjaa.Sh
