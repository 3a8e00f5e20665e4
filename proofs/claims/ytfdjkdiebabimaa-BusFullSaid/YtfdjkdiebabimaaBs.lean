/- Rows of bits in memory: their sum, numbers put behind them, what is alike. Conditions: lengths up to 2^30. -/
import Derived.Test.YtfdjkdiebabimaaFa
import Derived.Test.YtfdjkdiebabimaaV15
import Derived.Test.YtfdjkdiebabimaaShA
import Derived.Test.YtfdjkdiebabimaaShB
import Derived.Test.YtfdjkdiebabimaaShC
import Derived.Test.YtfdjkdiebabimaaBr
set_option linter.unusedVariables false
set_option linter.unusedSimpArgs false
set_option maxRecDepth 10000
namespace Go.V
open Go.RowKit
variable {P : Program}
theorem p_eqb {T : TypeId} {x y : Operand} {a b : Bool} (h : P.underlying T = some .bool) (he : P.eqGuardType P.depth T = false) : Pure P (binSem .eql T x y (.bool a) (.bool b)) (.bool (decide (a = b))) := fun w => by
  simp [binSem, eqGuard, binOp, Op.equal, Op.maxDepth, he, run_equalIn_bool' w _ T _ _ h, Sem.run_bind, Result.andThen, program, Sem.run, pure]
  cases a <;> cases b <;> rfl
theorem p_neb {T : TypeId} {x y : Operand} {a b : Bool} (h : P.underlying T = some .bool) (he : P.eqGuardType P.depth T = false) : Pure P (binSem .neq T x y (.bool a) (.bool b)) (.bool (!decide (a = b))) := fun w => by
  simp [binSem, eqGuard, binOp, Op.equal, Op.maxDepth, he, run_equalIn_bool' w _ T _ _ h, Sem.run_bind, Result.andThen, program, Sem.run, pure]
  cases a <;> cases b <;> rfl
theorem ldc {w : World} {b o : Nat} {t : TypeId} {v : Value} (ht : oneB P t = true) (h : w.cell? ⟨b, o, none⟩ = some v) {K : Value → World → Prop} : Run P (Instr.loadAt t (.pointer (some ⟨b, o, none⟩))) w K = K v w := Run.eq (run_load1 ht h)
theorem ldcQ {w : World} {b o : Nat} {t : TypeId} {v : Value} (ht : oneB P t = true) (h : w.cell? ⟨b, o, none⟩ = some v) {K : Value → Prop} : RunQ P (Instr.loadAt t (.pointer (some ⟨b, o, none⟩))) w K = K v :=
  propext ⟨fun ⟨u, h1, h2⟩ => by
    have := (h1 w (Ext.refl _)).symm.trans (run_load1 ht h)
    injection this with h3 _
    subst h3; exact h2, fun k => q_load1 ht h k⟩
theorem pIdx0 {t e sz b n c k : Nat} (ht : P.underlying t = some (.slice e)) (he : sizeB P e sz = true) (h1 : k < n) : Pure P (Instr.indexAt t (.slice (some ⟨b, 0, none⟩) n c) (.int .i64 (k : Int))) (.pointer (some ⟨b, k * sz, none⟩)) := by
  have := p_idx (P := P) (b := b) (o := 0) (n := n) (c := c) (k := .i64) (i := (k : Int)) ht he (by omega) (by omega)
  simpa using this
/-- Own slices that grow from one world to another. -/
structure Grw (w w' : World) (v v' : Value) : Prop where
  os : w'.os = w.os
  tape : w'.tape = w.tape
  output : w'.output = w.output
  size : w.heap.size ≤ w'.heap.size
  block : ∀ k, k < w.heap.size → v.ownBlock ≠ some k → w'.heap[k]? = w.heap[k]?
  new : ∀ k, v'.ownBlock = some k → v.ownBlock = some k ∨ w.heap.size ≤ k
theorem Grow.grw {w w' : World} {v v' : Value} (h : Grow w w' v v') : Grw w w' v v' :=
  ⟨h.os, h.tape, h.output, h.size, fun k hk hn => h.block k hk (fun e => hn (by first | exact e | exact e.symm)), fun k hk => by
    rcases h.new with h1 | h1
    · exact .inl (h1 ▸ hk)
    · exact .inr (h1 k hk).1⟩
theorem Grw.refl (w : World) (v : Value) : Grw w w v v := ⟨rfl, rfl, rfl, Nat.le_refl _, fun _ _ _ => rfl, fun _ h => .inl h⟩
theorem Grw.trans {a b c : World} {u v x : Value} (h : Grw a b u v) (k : Grw b c v x) : Grw a c u x :=
  ⟨k.os.trans h.os, k.tape.trans h.tape, k.output.trans h.output, Nat.le_trans h.size k.size,
    fun j hj hn => (k.block j (Nat.lt_of_lt_of_le hj h.size) (fun e => by rcases h.new j e with h1 | h1; exact hn h1; omega)).trans (h.block j hj hn),
    fun j hj => by
      rcases k.new j hj with h1 | h1
      · exact h.new j h1
      · exact .inr (Nat.le_trans h.size h1)⟩
theorem Grw.ext {w w' : World} {v : Value} (e : Ext w w') : Grw w w' v v := ⟨e.os, e.tape, e.output, e.size, fun k hk _ => e.block k hk, fun _ h => .inl h⟩
/-- Grown out of what is new since w0. -/
theorem Grw.isExt {w0 w w' : World} {v v' : Value} (h : Grw w w' v v') (e : Ext w0 w) (hv : ∀ k, v.ownBlock = some k → w0.heap.size ≤ k) : Ext w0 w' ∧ ∀ k, v'.ownBlock = some k → w0.heap.size ≤ k :=
  ⟨⟨h.os.trans e.os, h.tape.trans e.tape, h.output.trans e.output, Nat.le_trans e.size h.size, fun k hk => (h.block k (Nat.lt_of_lt_of_le hk e.size) fun he => by have := hv k he; omega).trans (e.block k hk)⟩,
    fun k hk => by rcases h.new k hk with h1 | h1; exact hv k h1; exact Nat.le_trans e.size h1⟩
end Go.V
namespace Go.Proofs.Ytfdjkdiebabimaa.Sh
open Go Go.V Go.RowKit Go.Proofs.Ytfdjkdiebabimaa.Bp

theorem all_one {l : List Value} (h : l.all Value.oneCell' = true) : ∀ u ∈ l, u.oneCell' = true := List.all_eq_true.1 h
theorem one_snoc {l : List Value} {v : Value} (h : ∀ u ∈ l, u.oneCell' = true) (hv : v.oneCell' = true) : ∀ u ∈ l ++ [v], u.oneCell' = true := by
  intro u hu
  rcases List.mem_append.1 hu with hu | hu
  · exact h u hu
  · simp at hu; subst hu; exact hv
theorem egb : Try.prog.eqGuardType Try.prog.depth 4 = false := by kernel_rfl
theorem eqb_r {x y : Operand} {a b : Bool} {w : World} {K : Value → World → Prop} : Run Try.prog (binSem .eql 4 x y (.bool a) (.bool b)) w K = K (.bool (decide (a = b))) w := (p_eqb Try.underlying4 egb).run
theorem neb_r {x y : Operand} {a b : Bool} {w : World} {K : Value → World → Prop} : Run Try.prog (binSem .neq 4 x y (.bool a) (.bool b)) w K = K (.bool (!decide (a = b))) w := (p_neb Try.underlying4 egb).run
abbrev RBool (cs : List Value) (x : Bool) : Prop := cs = [Value.bool x]
abbrev Bits (m : Mem) (v : Value) (l : List Bool) : Prop := Sl m 1 RBool v l
def bvals (l : List Bool) : List Value := l.map Value.bool
abbrev OBits (w : World) (v : Value) (l : List Bool) : Prop := Own w 4 1 v l.length (bvals l)
theorem bvals_flat (l : List Bool) : bvals l = l.flatMap fun b => [Value.bool b] := by
  induction l with
  | nil => rfl
  | cons b l ih => simp [bvals] at ih ⊢; exact ih
theorem OBits.bits {w : World} {v : Value} {l : List Bool} (h : OBits w v l) : Bits (memW w) v l := by
  unfold OBits at h
  rw [bvals_flat] at h
  exact h.sl (fun _ _ => rfl) (fun _ _ => rfl)
theorem k16 : IntKind.u16 = .u8 ∨ IntKind.u16 = .u16 ∨ IntKind.u16 = .u32 ∨ IntKind.u16 = .u64 := .inr (.inl rfl)
theorem k32 : IntKind.u32 = .u8 ∨ IntKind.u32 = .u16 ∨ IntKind.u32 = .u32 ∨ IntKind.u32 = .u64 := .inr (.inr (.inl rfl))
theorem and16 (r : Nat) : (r &&& 16384 = 0) = (r.testBit 14 = false) := by
  refine propext ⟨fun h => ?_, fun h => ?_⟩
  · have := congrArg (fun n => n.testBit 14) h
    simpa [Nat.testBit_and, show Nat.testBit 16384 14 = true from rfl] using this
  · apply Nat.eq_of_testBit_eq
    intro i
    rw [Nat.testBit_and, show (16384 : Nat) = 2 ^ 14 from rfl, Nat.testBit_two_pow, Nat.zero_testBit]
    by_cases hi : 14 = i
    · subst hi; rw [h]; rfl
    · simp [hi]
theorem crcAdd {b t r : Nat} {bit : Bool} {w : World} (hb : Blk w b [.int .u16 (r : Int)] t) (hr : r < 32768) :
    Does Try.prog 59 [.pointer (some ⟨b, 0, none⟩), .bool bit] w fun _ w' => Chg b w w' ∧ Blk w' b [.int .u16 ((crcStep r bit : Nat) : Int)] t := by
  refine D59 ?_
  unfold S59
  have h1 : Pure Try.prog (binSem .and 111 (.tmp 7) (.const (.int .u16 16384)) (.int .u16 (r : Int)) (.int .u16 16384)) (.int .u16 ((r &&& 16384 : Nat) : Int)) := p_and (b := 16384) k16 (by simp [IntKind.bits]; omega) (by decide)
  have h2 : ∀ a c : Nat, Pure Try.prog (binSem .shl 111 (.tmp a) (.const (.int .u64 1)) (.int .u16 (r : Int)) (.int .u64 1)) (.int .u16 ((r * 2 : Nat) : Int)) := fun a c => by
    have := p_shlN (P := Try.prog) (T := 111) (x := .tmp a) (y := .const (.int .u64 1)) (k := .u16) (k' := .u64) (a := r) (n := 1) k16 (by decide)
    rw [show r * 2 ^ 1 % 2 ^ IntKind.u16.bits = r * 2 by simp [IntKind.bits]; omega] at this
    exact this
  have h3 : ∀ a : Nat, Pure Try.prog (binSem .and 111 (.tmp a) (.const (.int .u16 32767)) (.int .u16 ((r * 2 : Nat) : Int)) (.int .u16 32767)) (.int .u16 ((shl1 r : Nat) : Int)) := fun a => by
    have := p_and (P := Try.prog) (T := 111) (x := .tmp a) (y := .const (.int .u16 32767)) (k := .u16) (a := r * 2) (b := 32767) k16 (by simp [IntKind.bits]; omega) (by decide)
    have e : (r * 2) &&& 32767 = shl1 r := by unfold shl1; rw [Nat.shiftLeft_eq]
    rw [e] at this
    exact this
  have hs : shl1 r < 32768 := and_lt _
  have h4 : ∀ a : Nat, Pure Try.prog (binSem .xor 111 (.tmp a) (.const (.int .u16 17817)) (.int .u16 ((shl1 r : Nat) : Int)) (.int .u16 17817)) (.int .u16 ((shl1 r ^^^ 17817 : Nat) : Int)) := fun a => p_xor (b := 17817) k16 (by simp [IntKind.bits]; omega) (by decide)
  rw [nil_r, Pure.run (p_field (o := 0) fld139_0), ld1 hb one111 (o := 0 + 0) rfl, Pure.run h1]
  simp only [neq_r, neb_r]
  have hc : (!decide ((!decide (((r &&& 16384 : Nat) : Int) = 0)) = bit)) = (r.testBit 14 != bit) := by
    have : decide (((r &&& 16384 : Nat) : Int) = 0) = !r.testBit 14 := by
      rw [Bool.eq_iff_iff, decide_eq_true_iff, Bool.not_eq_true']
      constructor
      · intro h; rw [← and16]; exact_mod_cast h
      · intro h; rw [← and16] at h; exact_mod_cast h
    rw [this]
    cases r.testBit 14 <;> cases bit <;> rfl
  rw [hc]
  have fin : ∀ (x : Nat) , crcStep r bit = x → RunU Try.prog (Instr.storeAt 111 (.pointer (some ⟨b, 0 + 0, none⟩)) (.int .u16 ((x : Nat) : Int))) w fun w' => Chg b w w' ∧ Blk w' b [.int .u16 ((crcStep r bit : Nat) : Int)] t := by
    rintro x rfl
    exact r_store size111 (l := [.int .u16 ((crcStep r bit : Nat) : Int)]) rfl rfl (by simp; rfl) hb (show 0 + 0 + 1 ≤ 1 by decide) fun w' c b' => ⟨c, b'⟩
  refine CondP.of (fun h => ?_) (fun h => ?_)
  · rw [nil_r, Pure.run (p_field (o := 0) fld139_0), ld1 hb one111 (o := 0 + 0) rfl, Pure.run (h2 _ 0), Pure.run (h3 _), Pure.run (h4 _), nil_r, Pure.run (p_field (o := 0) fld139_0)]
    exact fin _ (by unfold crcStep; rw [if_pos h])
  · show Run _ _ _ _
    rw [nil_r, Pure.run (p_field (o := 0) fld139_0), ld1 hb one111 (o := 0 + 0) rfl, Pure.run (h2 _ 0), Pure.run (h3 _), nil_r, Pure.run (p_field (o := 0) fld139_0)]
    exact fin _ (by unfold crcStep; rw [if_neg (by rw [h]; simp)])
end Go.Proofs.Ytfdjkdiebabimaa.Sh
