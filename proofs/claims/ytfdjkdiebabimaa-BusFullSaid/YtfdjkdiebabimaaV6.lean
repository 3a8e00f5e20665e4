/- The rules of the calculus: what each operation leaves. Conditions: none. -/
import Derived.Test.YtfdjkdiebabimaaV5
import Derived.WalkKit
set_option linter.unusedVariables false
set_option linter.unusedSimpArgs false
namespace Go.V
open Go.RowKit
variable {P : Program}

/-! Operations that leave the world alone. -/
def Pure (P : Program) (s : Sem Value) (v : Value) : Prop := ∀ w, s.run P w = .ok v w
theorem Run.of {s : Sem Value} {w w' : World} {v : Value} {K : Value → World → Prop} (h : s.run P w = .ok v w') (k : K v w') : Run P s w K := ⟨v, w', h, k⟩
theorem Run.eq {s : Sem Value} {w w' : World} {v : Value} {K : Value → World → Prop} (h : s.run P w = .ok v w') : Run P s w K = K v w' := by
  refine propext ⟨?_, fun k => ⟨v, w', h, k⟩⟩
  rintro ⟨u, w'', h', k⟩
  rw [h] at h'
  injection h' with h1 h2
  subst h1; subst h2
  exact k
theorem Pure.run {s : Sem Value} {w : World} {v : Value} {K : Value → World → Prop} (h : Pure P s v) : Run P s w K = K v w := Run.eq (h w)
theorem Pure.runQ {s : Sem Value} {w : World} {v : Value} {K : Value → Prop} (h : Pure P s v) : RunQ P s w K = K v := by
  refine propext ⟨?_, fun k => ⟨v, fun w1 _ => h w1, k⟩⟩
  rintro ⟨u, h', k⟩
  have := (h' w (Ext.refl _)).symm.trans (h w)
  injection this with h1 h2
  subst h1
  exact k
theorem PickP.eq {t : Bool} {a b : Value} {w : World} {K : Value → World → Prop} : PickP (.bool t) a b w K = K (if t then a else b) w :=
  propext ⟨by rintro ⟨u, h, k⟩; injection h with h; subst h; exact k, fun k => ⟨t, rfl, k⟩⟩
theorem PickQ.eq {t : Bool} {a b : Value} {K : Value → Prop} : PickQ (.bool t) a b K = K (if t then a else b) :=
  propext ⟨by rintro ⟨u, h, k⟩; injection h with h; subst h; exact k, fun k => ⟨t, rfl, k⟩⟩
theorem GuardP.yes {t : Bool} {A : (Value → World → Prop) → Prop} {w : World} {K : Value → World → Prop} : GuardP (.bool t) t A w K = A K :=
  propext ⟨fun h => h.1 rfl, fun h => ⟨fun _ => h, fun h' => absurd rfl h'⟩⟩
theorem GuardP.no {t u : Bool} (hn : (t == u) = false) {A : (Value → World → Prop) → Prop} {w : World} {K : Value → World → Prop} : GuardP (.bool t) u A w K = K undef w :=
  propext ⟨fun h => h.2 (by intro e; injection e with e; subst e; simp at hn), fun h => ⟨fun e => by injection e with e; subst e; simp at hn, fun _ => h⟩⟩
theorem GuardP.undef {u : Bool} {A : (Value → World → Prop) → Prop} {w : World} {K : Value → World → Prop} : GuardP undef u A w K = K undef w :=
  propext ⟨fun h => h.2 (by intro e; cases e), fun h => ⟨fun e => (by cases e), fun _ => h⟩⟩
theorem GuardQ.yes {t : Bool} {A : (Value → Prop) → Prop} {K : Value → Prop} : GuardQ (.bool t) t A K = A K :=
  propext ⟨fun h => h.1 rfl, fun h => ⟨fun _ => h, fun h' => absurd rfl h'⟩⟩
theorem GuardQ.no {t u : Bool} (hn : (t == u) = false) {A : (Value → Prop) → Prop} {K : Value → Prop} : GuardQ (.bool t) u A K = K undef :=
  propext ⟨fun h => h.2 (by intro e; injection e with e; subst e; simp at hn), fun h => ⟨fun e => by injection e with e; subst e; simp at hn, fun _ => h⟩⟩
theorem GuardQ.undef {u : Bool} {A : (Value → Prop) → Prop} {K : Value → Prop} : GuardQ undef u A K = K undef :=
  propext ⟨fun h => h.2 (by intro e; cases e), fun h => ⟨fun e => (by cases e), fun _ => h⟩⟩
theorem CondP.tt {n : Nat} {A B : NF n → Prop} {K : NF n} : CondP (.bool true) n A B K = A K :=
  propext ⟨fun h => h.h1 rfl, fun h => ⟨⟨true, rfl⟩, fun _ => h, fun e => (by injection e with e; cases e)⟩⟩
theorem CondP.ff {n : Nat} {A B : NF n → Prop} {K : NF n} : CondP (.bool false) n A B K = B K :=
  propext ⟨fun h => h.h2 rfl, fun h => ⟨⟨false, rfl⟩, fun e => (by injection e with e; cases e), fun _ => h⟩⟩
theorem CondP.of {b : Bool} {n : Nat} {A B : NF n → Prop} {K : NF n} (h1 : b = true → A K) (h2 : b = false → B K) : CondP (.bool b) n A B K :=
  ⟨⟨b, rfl⟩, fun e => h1 (by injection e), fun e => h2 (by injection e)⟩
theorem CondP.dec {p : Prop} [Decidable p] {n : Nat} {A B : NF n → Prop} {K : NF n} (h1 : p → A K) (h2 : ¬ p → B K) : CondP (.bool (decide p)) n A B K :=
  .of (fun h => h1 (of_decide_eq_true h)) (fun h => h2 (of_decide_eq_false h))
theorem JoinP.eq {n : Nat} {A : NF n → Prop} {K : NF n} : JoinP n A K = A K := propext ⟨fun h => h.h, fun h => ⟨h⟩⟩
theorem LoopP.of0 {B : NF 0 → NF 0} {w : World} (I : World → Prop) (μ : World → Nat) (h0 : I w)
    (hr : ∀ w, I w → B (fun w' => I w' ∧ μ w' < μ w) w) : LoopP 0 B [] w :=
  ⟨fun vs w => I w, fun _ w => μ w, h0, fun vs w hl h => match vs, hl, h with | [], _, h => hr w h⟩
theorem LoopP.of1 {B : NF 1 → NF 1} {a : Value} {w : World} (I : Value → World → Prop) (μ : Value → World → Nat) (h0 : I a w)
    (hr : ∀ a w, I a w → B (fun a' w' => I a' w' ∧ μ a' w' < μ a w) a w) : LoopP 1 B [a] w :=
  ⟨fun vs w => match vs with | [a] => I a w | _ => False, fun vs w => match vs with | [a] => μ a w | _ => 0, h0, fun vs w hl h => match vs, hl, h with | [a], _, h => hr a w h⟩
theorem LoopP.of2 {B : NF 2 → NF 2} {a b : Value} {w : World} (I : Value → Value → World → Prop) (μ : Value → Value → World → Nat) (h0 : I a b w)
    (hr : ∀ a b w, I a b w → B (fun a' b' w' => I a' b' w' ∧ μ a' b' w' < μ a b w) a b w) : LoopP 2 B [a, b] w :=
  ⟨fun vs w => match vs with | [a, b] => I a b w | _ => False, fun vs w => match vs with | [a, b] => μ a b w | _ => 0, h0, fun vs w hl h => match vs, hl, h with | [a, b], _, h => hr a b w h⟩
theorem LoopP.of3 {B : NF 3 → NF 3} {a b c : Value} {w : World} (I : Value → Value → Value → World → Prop) (μ : Value → Value → Value → World → Nat) (h0 : I a b c w)
    (hr : ∀ a b c w, I a b c w → B (fun a' b' c' w' => I a' b' c' w' ∧ μ a' b' c' w' < μ a b c w) a b c w) : LoopP 3 B [a, b, c] w :=
  ⟨fun vs w => match vs with | [a, b, c] => I a b c w | _ => False, fun vs w => match vs with | [a, b, c] => μ a b c w | _ => 0, h0, fun vs w hl h => match vs, hl, h with | [a, b, c], _, h => hr a b c w h⟩
theorem LoopP.of4 {B : NF 4 → NF 4} {a b c d : Value} {w : World} (I : Value → Value → Value → Value → World → Prop) (μ : Value → Value → Value → Value → World → Nat) (h0 : I a b c d w)
    (hr : ∀ a b c d w, I a b c d w → B (fun a' b' c' d' w' => I a' b' c' d' w' ∧ μ a' b' c' d' w' < μ a b c d w) a b c d w) : LoopP 4 B [a, b, c, d] w :=
  ⟨fun vs w => match vs with | [a, b, c, d] => I a b c d w | _ => False, fun vs w => match vs with | [a, b, c, d] => μ a b c d w | _ => 0, h0, fun vs w hl h => match vs, hl, h with | [a, b, c, d], _, h => hr a b c d w h⟩
theorem LoopP.of5 {B : NF 5 → NF 5} {a b c d e : Value} {w : World} (I : Value → Value → Value → Value → Value → World → Prop) (μ : Value → Value → Value → Value → Value → World → Nat) (h0 : I a b c d e w)
    (hr : ∀ a b c d e w, I a b c d e w → B (fun a' b' c' d' e' w' => I a' b' c' d' e' w' ∧ μ a' b' c' d' e' w' < μ a b c d e w) a b c d e w) : LoopP 5 B [a, b, c, d, e] w :=
  ⟨fun vs w => match vs with | [a, b, c, d, e] => I a b c d e w | _ => False, fun vs w => match vs with | [a, b, c, d, e] => μ a b c d e w | _ => 0, h0, fun vs w hl h => match vs, hl, h with | [a, b, c, d, e], _, h => hr a b c d e w h⟩
theorem LoopP.of6 {B : NF 6 → NF 6} {a b c d e f : Value} {w : World} (I : Value → Value → Value → Value → Value → Value → World → Prop) (μ : Value → Value → Value → Value → Value → Value → World → Nat) (h0 : I a b c d e f w)
    (hr : ∀ a b c d e f w, I a b c d e f w → B (fun a' b' c' d' e' f' w' => I a' b' c' d' e' f' w' ∧ μ a' b' c' d' e' f' w' < μ a b c d e f w) a b c d e f w) : LoopP 6 B [a, b, c, d, e, f] w :=
  ⟨fun vs w => match vs with | [a, b, c, d, e, f] => I a b c d e f w | _ => False, fun vs w => match vs with | [a, b, c, d, e, f] => μ a b c d e f w | _ => 0, h0, fun vs w hl h => match vs, hl, h with | [a, b, c, d, e, f], _, h => hr a b c d e f w h⟩
theorem LoopP.of7 {B : NF 7 → NF 7} {a b c d e f g : Value} {w : World} (I : Value → Value → Value → Value → Value → Value → Value → World → Prop) (μ : Value → Value → Value → Value → Value → Value → Value → World → Nat) (h0 : I a b c d e f g w)
    (hr : ∀ a b c d e f g w, I a b c d e f g w → B (fun a' b' c' d' e' f' g' w' => I a' b' c' d' e' f' g' w' ∧ μ a' b' c' d' e' f' g' w' < μ a b c d e f g w) a b c d e f g w) : LoopP 7 B [a, b, c, d, e, f, g] w :=
  ⟨fun vs w => match vs with | [a, b, c, d, e, f, g] => I a b c d e f g w | _ => False, fun vs w => match vs with | [a, b, c, d, e, f, g] => μ a b c d e f g w | _ => 0, h0, fun vs w hl h => match vs, hl, h with | [a, b, c, d, e, f, g], _, h => hr a b c d e f g w h⟩
theorem LoopP.of8 {B : NF 8 → NF 8} {a b c d e f g h' : Value} {w : World} (I : Value → Value → Value → Value → Value → Value → Value → Value → World → Prop) (μ : Value → Value → Value → Value → Value → Value → Value → Value → World → Nat) (h0 : I a b c d e f g h' w)
    (hr : ∀ a b c d e f g h' w, I a b c d e f g h' w → B (fun a' b' c' d' e' f' g' h'' w' => I a' b' c' d' e' f' g' h'' w' ∧ μ a' b' c' d' e' f' g' h'' w' < μ a b c d e f g h' w) a b c d e f g h' w) : LoopP 8 B [a, b, c, d, e, f, g, h'] w :=
  ⟨fun vs w => match vs with | [a, b, c, d, e, f, g, h'] => I a b c d e f g h' w | _ => False, fun vs w => match vs with | [a, b, c, d, e, f, g, h'] => μ a b c d e f g h' w | _ => 0, h0, fun vs w hl h => match vs, hl, h with | [a, b, c, d, e, f, g, h'], _, h => hr a b c d e f g h' w h⟩
theorem LoopP.of9 {B : NF 9 → NF 9} {a b c d e f g h' i' : Value} {w : World} (I : Value → Value → Value → Value → Value → Value → Value → Value → Value → World → Prop) (μ : Value → Value → Value → Value → Value → Value → Value → Value → Value → World → Nat) (h0 : I a b c d e f g h' i' w)
    (hr : ∀ a b c d e f g h' i' w, I a b c d e f g h' i' w → B (fun a' b' c' d' e' f' g' h'' i'' w' => I a' b' c' d' e' f' g' h'' i'' w' ∧ μ a' b' c' d' e' f' g' h'' i'' w' < μ a b c d e f g h' i' w) a b c d e f g h' i' w) : LoopP 9 B [a, b, c, d, e, f, g, h', i'] w :=
  ⟨fun vs w => match vs with | [a, b, c, d, e, f, g, h', i'] => I a b c d e f g h' i' w | _ => False, fun vs w => match vs with | [a, b, c, d, e, f, g, h', i'] => μ a b c d e f g h' i' w | _ => 0, h0, fun vs w hl h => match vs, hl, h with | [a, b, c, d, e, f, g, h', i'], _, h => hr a b c d e f g h' i' w h⟩
/-! Calls. -/
def plainFn (P : Program) (f : FuncId) : Bool :=
  match P.funcs[f]? with
  | some fn => !(fn.name == "runtime.NumGoroutine") && fn.body.isSome
  | none => false
theorem run_callFunc {f : FuncId} (h : plainFn P f = true) (args : Array Value) (w : World) : (callFunc f args).run P w = .ok (.enter f args) w := by
  unfold plainFn at h
  cases hf : P.funcs[f]? with
  | none => rw [hf] at h; cases h
  | some fn =>
    rw [hf] at h
    simp only [Bool.and_eq_true, Bool.not_eq_true'] at h
    obtain ⟨h1, h2⟩ := h
    obtain ⟨c, hc⟩ := Option.isSome_iff_exists.1 h2
    have h1' : ¬ fn.name = "runtime.NumGoroutine" := by simpa using h1
    simp [callFunc, program, Sem.run_bind, Sem.run, hf, h1', hc, Result.andThen, pure]
theorem GoN.call {f : FuncId} (h : plainFn P f = true) {args : List Value} {w : World} {K R : Value → World → Prop} (hd : Does P f args w R) (hk : ∀ v w', R v w' → K v w') : GoN P (callFunc f args.toArray) w K := by
  refine ⟨?_⟩
  rw [run_callFunc h]
  exact hd.mono fun e w' ⟨v, he, hr⟩ => ⟨v, he, hk _ _ hr⟩
theorem Does.mono {f : FuncId} {args : List Value} {w : World} {K R : Value → World → Prop} (hd : Does P f args w R) (hk : ∀ v w', R v w' → K v w') : Does P f args w K :=
  Calls.mono hd fun e w' ⟨v, he, hr⟩ => ⟨v, he, hk _ _ hr⟩

/-! Integers, strings, bools. -/
theorem p_add {T T' : TypeId} {x y : Operand} {k : IntKind} {a b : Int} : Pure P (binSem .add T x y (.int k a) (.int k b)) (.int k (k.wrap (a + b))) := fun w => by
  simp [binSem, eqGuard, binOp, Op.intArith, Sem.run_bind, pure, Sem.run, Result.andThen]
theorem p_sub {T : TypeId} {x y : Operand} {k : IntKind} {a b : Int} : Pure P (binSem .sub T x y (.int k a) (.int k b)) (.int k (k.wrap (a - b))) := fun w => by
  simp [binSem, eqGuard, binOp, Op.intArith, Sem.run_bind, pure, Sem.run, Result.andThen]
theorem p_mul {T : TypeId} {x y : Operand} {k : IntKind} {a b : Int} : Pure P (binSem .mul T x y (.int k a) (.int k b)) (.int k (k.wrap (a * b))) := fun w => by
  simp [binSem, eqGuard, binOp, Op.intArith, Sem.run_bind, pure, Sem.run, Result.andThen]
theorem p_lss {T : TypeId} {x y : Operand} {k : IntKind} {a b : Int} : Pure P (binSem .lss T x y (.int k a) (.int k b)) (.bool (decide (a < b))) := fun w => by
  simp [binSem, eqGuard, binOp, Op.intCmp, Sem.run_bind, pure, Sem.run, Result.andThen]
theorem p_leq {T : TypeId} {x y : Operand} {k : IntKind} {a b : Int} : Pure P (binSem .leq T x y (.int k a) (.int k b)) (.bool (decide (a ≤ b))) := fun w => by
  simp [binSem, eqGuard, binOp, Op.intCmp, Sem.run_bind, pure, Sem.run, Result.andThen]
theorem p_gtr {T : TypeId} {x y : Operand} {k : IntKind} {a b : Int} : Pure P (binSem .gtr T x y (.int k a) (.int k b)) (.bool (decide (b < a))) := fun w => by
  simp [binSem, eqGuard, binOp, Op.intCmp, Sem.run_bind, pure, Sem.run, Result.andThen]
theorem p_geq {T : TypeId} {x y : Operand} {k : IntKind} {a b : Int} : Pure P (binSem .geq T x y (.int k a) (.int k b)) (.bool (decide (b ≤ a))) := fun w => by
  simp [binSem, eqGuard, binOp, Op.intCmp, Sem.run_bind, pure, Sem.run, Result.andThen]
theorem p_eql {T : TypeId} {x y : Operand} {k : IntKind} {a b : Int} : Pure P (binSem .eql T x y (.int k a) (.int k b)) (.bool (decide (a = b))) := fun w => by
  have : (a == b) = decide (a = b) := by by_cases h : a = b <;> simp [h]
  simp [binSem, eqGuard, binOp, Op.intCmp, Sem.run_bind, pure, Sem.run, Result.andThen, this]
theorem p_neq {T : TypeId} {x y : Operand} {k : IntKind} {a b : Int} : Pure P (binSem .neq T x y (.int k a) (.int k b)) (.bool (!decide (a = b))) := fun w => by
  have : (a != b) = !decide (a = b) := by by_cases h : a = b <;> simp [h]
  simp [binSem, eqGuard, binOp, Op.intCmp, Sem.run_bind, pure, Sem.run, Result.andThen, this]
theorem str_beq (a b : ByteArray) : (a.toList == b.toList) = decide (a = b) := by
  rw [Bool.eq_iff_iff, beq_iff_eq, decide_eq_true_iff]
  constructor
  · intro h
    rw [ByteArray.toList_eq, ByteArray.toList_eq] at h
    cases a; cases b
    simp only at h
    rw [ByteArray.mk.injEq]
    exact Array.toList_inj.1 h
  · rintro rfl; rfl
theorem p_eqs {T : TypeId} {x y : Operand} {a b : ByteArray} : Pure P (binSem .eql T x y (.string a) (.string b)) (.bool (decide (a = b))) := fun w => by
  simp [binSem, eqGuard, binOp, Op.stringOp, Sem.run_bind, pure, Sem.run, Result.andThen, ← str_beq]
theorem p_nes {T : TypeId} {x y : Operand} {a b : ByteArray} : Pure P (binSem .neq T x y (.string a) (.string b)) (.bool (!decide (a = b))) := fun w => by
  simp [binSem, eqGuard, binOp, Op.stringOp, Sem.run_bind, pure, Sem.run, Result.andThen, ← str_beq]
theorem p_not {b : Bool} : Pure P (Op.unary .not (.bool b)) (.bool (!b)) := fun w => by
  simp [Op.unary, pure, Sem.run]
theorem p_nil {a : Addr} : Pure P (nilSem (.pointer (some a))) (.pointer (some a)) := fun w => by
  simp [nilSem, pure, Sem.run]
theorem p_ext0 {l : List Value} {v : Value} {i : Nat} (h : l[i]? = some v) : Pure P (Instr.extract (.tuple l.toArray) i) v := fun w => by
  simp [Instr.extract, h, pure, Sem.run]
end Go.V
