/- The conditions of functions, printed by a program off the loaded code and held against it by the kernel. Conditions: none. -/
import Derived.Test.YtmgleeoecdodjaaV5
import Derived.Test.YtmgleeoecdodjaaProg
set_option linter.unusedVariables false
set_option maxRecDepth 100000
namespace Go.Proofs.Ytmgleeoecdodjaa.Sh
open Go Go.V
theorem mixed : Try.prog.follows .mixedOrders = true := by kernel_rfl
/-- (busbar/api.Version).Where -/
def S99 (v_0 : Value) (w : World) (R : Value → World → Prop) : Prop :=
  Run Try.prog (Instr.box 25 v_0) w fun v_1 w1 =>
  Run Try.prog (Instr.alloc 23 true (.tuple #[])) w1 fun t2 w2 =>
  Run Try.prog (Instr.fieldAt 25 v_1 0) w2 fun t3 w3 =>
  Run Try.prog (Instr.loadAt 23 t3) w3 fun t4 w4 =>
  RunU Try.prog (Instr.storeAt 23 t2 t4) w4 fun w5 =>
  resK Try.prog t2 23 w5 fun r0 =>
  R r0 w5
theorem S99_eq (v_0 : Value) (w : World) (R : Value → World → Prop) : vcFn Try.prog Try.f99 [v_0] w R = S99 v_0 w R := by kernel_rfl
theorem D99 {v_0 : Value} {w : World} {R : Value → World → Prop} (h : S99 v_0 w R) : Does Try.prog 99 [v_0] w R :=
  does_of_vc mixed Try.func99 (by kernel_rfl) (by kernel_rfl) ((S99_eq v_0 w R).mpr h)

/-- (busbar/api.Stations).Where -/
def S100 (s_0 : Value) (w : World) (R : Value → World → Prop) : Prop :=
  Run Try.prog (Instr.box 28 s_0) w fun s_1 w1 =>
  Run Try.prog (Instr.alloc 23 true (.tuple #[])) w1 fun t2 w2 =>
  Run Try.prog (Instr.fieldAt 28 s_1 0) w2 fun t3 w3 =>
  Run Try.prog (Instr.loadAt 23 t3) w3 fun t4 w4 =>
  RunU Try.prog (Instr.storeAt 23 t2 t4) w4 fun w5 =>
  resK Try.prog t2 23 w5 fun r0 =>
  R r0 w5
theorem S100_eq (s_0 : Value) (w : World) (R : Value → World → Prop) : vcFn Try.prog Try.f100 [s_0] w R = S100 s_0 w R := by kernel_rfl
theorem D100 {s_0 : Value} {w : World} {R : Value → World → Prop} (h : S100 s_0 w R) : Does Try.prog 100 [s_0] w R :=
  does_of_vc mixed Try.func100 (by kernel_rfl) (by kernel_rfl) ((S100_eq s_0 w R).mpr h)

/-- (busbar/api.Message).Where -/
def S101 (m_0 : Value) (w : World) (R : Value → World → Prop) : Prop :=
  Run Try.prog (Instr.box 62 m_0) w fun m_1 w1 =>
  Run Try.prog (Instr.alloc 23 true (.tuple #[])) w1 fun t2 w2 =>
  Run Try.prog (Instr.fieldAt 62 m_1 0) w2 fun t3 w3 =>
  Run Try.prog (Instr.loadAt 23 t3) w3 fun t4 w4 =>
  RunU Try.prog (Instr.storeAt 23 t2 t4) w4 fun w5 =>
  resK Try.prog t2 23 w5 fun r0 =>
  R r0 w5
theorem S101_eq (m_0 : Value) (w : World) (R : Value → World → Prop) : vcFn Try.prog Try.f101 [m_0] w R = S101 m_0 w R := by kernel_rfl
theorem D101 {m_0 : Value} {w : World} {R : Value → World → Prop} (h : S101 m_0 w R) : Does Try.prog 101 [m_0] w R :=
  does_of_vc mixed Try.func101 (by kernel_rfl) (by kernel_rfl) ((S101_eq m_0 w R).mpr h)

/-- (busbar/api.Table).Where -/
def S102 (t_0 : Value) (w : World) (R : Value → World → Prop) : Prop :=
  Run Try.prog (Instr.box 79 t_0) w fun t_1 w1 =>
  Run Try.prog (Instr.alloc 23 true (.tuple #[])) w1 fun t2 w2 =>
  Run Try.prog (Instr.fieldAt 79 t_1 0) w2 fun t3 w3 =>
  Run Try.prog (Instr.loadAt 23 t3) w3 fun t4 w4 =>
  RunU Try.prog (Instr.storeAt 23 t2 t4) w4 fun w5 =>
  resK Try.prog t2 23 w5 fun r0 =>
  R r0 w5
theorem S102_eq (t_0 : Value) (w : World) (R : Value → World → Prop) : vcFn Try.prog Try.f102 [t_0] w R = S102 t_0 w R := by kernel_rfl
theorem D102 {t_0 : Value} {w : World} {R : Value → World → Prop} (h : S102 t_0 w R) : Does Try.prog 102 [t_0] w R :=
  does_of_vc mixed Try.func102 (by kernel_rfl) (by kernel_rfl) ((S102_eq t_0 w R).mpr h)

end Go.Proofs.Ytmgleeoecdodjaa.Sh
