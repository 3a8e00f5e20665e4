/- errors.Is and errors.As at a Fault; the number and the place of a Fault. Conditions: the library's variable on the type error as laid. -/
import Derived.Test.YtmgleeoecdodjaaDoorUa
set_option linter.unusedVariables false
set_option linter.unusedSimpArgs false
set_option maxRecDepth 10000
namespace Go.Proofs.YtmgleeoecdodjaaDoor.Sh
open Go Go.V Go.RowKit Go.Extern

def errno (n : Int) : Value := .iface 94 (.int .i64 n)
def flt (no a : Int) : Value := .iface 96 (.agg #[.int .i64 no, .int .i64 0, .int .i64 a])
theorem a_isF (v : Value) (w : World) : (Instr.typeAssert (.iface 96 v) 42 200 true).run Tryd.prog w = .ok (.tuple #[.nilIface, .bool false]) w := run_typeAssert_lacksB Tryd.underlying200 (by kernel_rfl) (by kernel_rfl) v _ w
theorem a_isE (v : Value) (w : World) : (Instr.typeAssert (.iface 94 v) 42 200 true).run Tryd.prog w = .ok (.tuple #[.nilIface, .bool false]) w := run_typeAssert_lacksB Tryd.underlying200 (by kernel_rfl) (by kernel_rfl) v _ w
theorem a_unF (v : Value) (w : World) : (Instr.typeAssert (.iface 96 v) 42 195 true).run Tryd.prog w = .ok (.tuple #[.iface 96 v, .bool true]) w := run_typeAssert_hasB Tryd.underlying195 (by kernel_rfl) v _ w
theorem a_unE (v : Value) (w : World) : (Instr.typeAssert (.iface 94 v) 42 195 true).run Tryd.prog w = .ok (.tuple #[.nilIface, .bool false]) w := run_typeAssert_lacksB Tryd.underlying195 (by kernel_rfl) (by kernel_rfl) v _ w
theorem a_ulE (v : Value) (w : World) : (Instr.typeAssert (.iface 94 v) 42 197 true).run Tryd.prog w = .ok (.tuple #[.nilIface, .bool false]) w := run_typeAssert_lacksB Tryd.underlying197 (by kernel_rfl) (by kernel_rfl) v _ w
theorem e_nil (x y : Operand) (t : TypeId) (v : Value) : Pure Tryd.prog (binSem .eql 42 x y (.iface t v) .nilIface) (.bool false) := fun w => by kernel_rfl
theorem e_nilnil (a : Nat) : Pure Tryd.prog (binSem .eql 42 (.tmp a) (.const .nilIface) .nilIface .nilIface) (.bool true) := fun w => by kernel_rfl
theorem e_nilP (x y : Operand) (t : TypeId) (v : Value) : Pure Tryd.prog (binSem .eql 20 x y (.iface t v) .nilIface) (.bool false) := fun w => by kernel_rfl
theorem e_fe (a b : Nat) (no at_ n : Int) : Pure Tryd.prog (binSem .eql 42 (.tmp a) (.tmp b) (flt no at_) (errno n)) (.bool false) := fun w => by kernel_rfl
theorem e_ee (a b : Nat) (m n : Int) : Pure Tryd.prog (binSem .eql 42 (.tmp a) (.tmp b) (errno m) (errno n)) (.bool (m == n)) := fun w => by kernel_rfl
theorem i_err (n : Int) : Pure Tryd.prog (Instr.makeInterface 94 (.int .i64 n)) (errno n) := fun w => by kernel_rfl
theorem i_ptr (b : Nat) : Pure Tryd.prog (Instr.makeInterface 135 (.pointer (some ⟨b, 0, none⟩))) (.iface 135 (.pointer (some ⟨b, 0, none⟩))) := fun w => by kernel_rfl
theorem p_ext {l : Array Value} {v : Value} {i : Nat} (h : l[i]? = some v) : Pure Tryd.prog (Instr.extract (.tuple l) i) v := fun w => by
  simp [Instr.extract, h, pure, Sem.run]
theorem x2_0 (a b : Value) : Pure Tryd.prog (Instr.extract (.tuple #[a, b]) 0) a := p_ext rfl
theorem x2_1 (a b : Value) : Pure Tryd.prog (Instr.extract (.tuple #[a, b]) 1) b := p_ext rfl
theorem x3_0 (a b c : Value) : Pure Tryd.prog (Instr.extract (.tuple #[a, b, c]) 0) a := p_ext rfl
theorem x3_1 (a b c : Value) : Pure Tryd.prog (Instr.extract (.tuple #[a, b, c]) 1) b := p_ext rfl
theorem x3_2 (a b c : Value) : Pure Tryd.prog (Instr.extract (.tuple #[a, b, c]) 2) c := p_ext rfl
theorem unwrap (no a : Int) (w : World) : Does Tryd.prog 102 [.agg #[.int .i64 no, .int .i64 0, .int .i64 a]] w fun v w' => v = errno no ∧ Ext w w' := by
  refine D102 ?_
  unfold S102
  refine r_box fun w1 e1 z1 b1 => ?_
  have b1 : Blk w1 w.heap.size [.int .i64 no, .int .i64 0, .int .i64 a] 96 := b1
  rw [Pure.run (p_field (o := 0) fld96_0), ld1 b1 one94 (o := 0 + 0) (v := .int .i64 no) rfl, Pure.run (i_err _)]
  exact ⟨rfl, e1⟩
/-- errors.is of a Fault and a number. -/
theorem is_ (no a n : Int) (w : World) : Does Tryd.prog 73 [flt no a, errno n, .bool true] w fun v w' => v = .bool (no == n) ∧ Ext w w' := by
  refine D73 ?_
  unfold S73
  simp only [JoinP.eq]
  refine LoopP.of2 (fun e _ w' => (e = flt no a ∨ e = errno no) ∧ Ext w w') (fun e _ _ => match e with | .iface t _ => if t = 96 then 1 else 0 | _ => 0) ⟨.inl rfl, Ext.refl _⟩ ?_
  rintro e t6 w1 ⟨he, x1⟩
  rcases he with rfl | rfl
  · simp only [JoinP.eq, PickP.eq, GuardP.yes, GuardP.undef, GuardP.no (show (true == false) = false from rfl), GuardP.no (show (false == true) = false from rfl), CondP.tt, CondP.ff, add_r, sub_r, mul_r, lss_r, leq_r, gtr_r, geq_r, eql_r, neq_r, eqs_r, nes_r, not_r, nil_r, Bool.not_true, Bool.not_false, if_true, if_false, Bool.false_eq_true, decide_true, decide_false, Nat.zero_add, Bool.and_true, Bool.true_and, Pure.run (e_fe _ _ _ _ _)]
    unfold flt
    simp only [Run.eq (a_isF _ _), Pure.run (x2_0 _ _), Pure.run (x2_1 _ _), JoinP.eq, PickP.eq, GuardP.yes, GuardP.undef, GuardP.no (show (true == false) = false from rfl), GuardP.no (show (false == true) = false from rfl), CondP.tt, CondP.ff, add_r, sub_r, mul_r, lss_r, leq_r, gtr_r, geq_r, eql_r, neq_r, eqs_r, nes_r, not_r, nil_r, Bool.not_true, Bool.not_false, if_true, if_false, Bool.false_eq_true, decide_true, decide_false, Nat.zero_add, Bool.and_true, Bool.true_and, Run.eq (a_unF _ _)]
    refine GoN.methM (m_unwrap _ _) (GoN.does pl102 (unwrap no a w1) ?_)
    rintro _ w2 ⟨rfl, x2⟩
    unfold errno
    rw [Pure.run (e_nil _ _ _ _)]
    simp only [JoinP.eq, PickP.eq, GuardP.yes, GuardP.undef, GuardP.no (show (true == false) = false from rfl), GuardP.no (show (false == true) = false from rfl), CondP.tt, CondP.ff, add_r, sub_r, mul_r, lss_r, leq_r, gtr_r, geq_r, eql_r, neq_r, eqs_r, nes_r, not_r, nil_r, Bool.not_true, Bool.not_false, if_true, if_false, Bool.false_eq_true, decide_true, decide_false, Nat.zero_add, Bool.and_true, Bool.true_and]
    exact ⟨⟨.inr (by first | rfl | trivial), x1.trans x2⟩, by decide⟩
  · simp only [JoinP.eq, PickP.eq, GuardP.yes, GuardP.undef, GuardP.no (show (true == false) = false from rfl), GuardP.no (show (false == true) = false from rfl), CondP.tt, CondP.ff, add_r, sub_r, mul_r, lss_r, leq_r, gtr_r, geq_r, eql_r, neq_r, eqs_r, nes_r, not_r, nil_r, Bool.not_true, Bool.not_false, if_true, if_false, Bool.false_eq_true, decide_true, decide_false, Nat.zero_add, Bool.and_true, Bool.true_and, Pure.run (e_ee _ _ _ _)]
    refine CondP.of (fun h => ?_) (fun h => ?_)
    · exact ⟨by rw [h], x1⟩
    · unfold errno
      simp only [Run.eq (a_isE _ _), Pure.run (x2_0 _ _), Pure.run (x2_1 _ _), JoinP.eq, PickP.eq, GuardP.yes, GuardP.undef, GuardP.no (show (true == false) = false from rfl), GuardP.no (show (false == true) = false from rfl), CondP.tt, CondP.ff, add_r, sub_r, mul_r, lss_r, leq_r, gtr_r, geq_r, eql_r, neq_r, eqs_r, nes_r, not_r, nil_r, Bool.not_true, Bool.not_false, if_true, if_false, Bool.false_eq_true, decide_true, decide_false, Nat.zero_add, Bool.and_true, Bool.true_and, Run.eq (a_unE _ _), Run.eq (a_ulE _ _)]
      exact ⟨by rw [h], x1⟩
theorem isErr (no a n : Int) (w : World) : Does Tryd.prog 53 [flt no a, errno n] w fun v w' => v = .bool (no == n) ∧ Ext w w' := by
  refine D53 ?_
  unfold S53
  unfold flt errno
  simp only [Pure.run (e_nil _ _ _ _), JoinP.eq, PickP.eq, GuardP.yes, GuardP.undef, GuardP.no (show (true == false) = false from rfl), GuardP.no (show (false == true) = false from rfl), CondP.tt, CondP.ff, add_r, sub_r, mul_r, lss_r, leq_r, gtr_r, geq_r, eql_r, neq_r, eqs_r, nes_r, not_r, nil_r, Bool.not_true, Bool.not_false, if_true, if_false, Bool.false_eq_true, decide_true, decide_false, Nat.zero_add, Bool.and_true, Bool.true_and]
  refine GoN.ext (e := ReflectliteType.typeOf) Tryd.func72 (by kernel_rfl) (by kernel_rfl) (by kernel_rfl) (by kernel_rfl) (n_typeOfErrno n w) ?_
  unfold rty
  refine GoN.methM (m_comparable _ _) (GoN.ext (e := (ReflectliteType.method fun t => do Rtype.noPackHeld "Comparable" t; pure (.bool (← typeInfo t).comparable))) Tryd.func108 (by kernel_rfl) (by kernel_rfl) (by kernel_rfl) (by kernel_rfl) (n_comparable w) ?_)
  exact GoN.does pl73 (is_ no a n w) fun v w' h => h
/-- The number of a Fault. -/
theorem num (no a : Int) (w : World) (h1 : 1 ≤ no) (h2 : no ≤ 26) : Does Tryd.prog 25 [flt no a] w fun v w' => v = .int .i64 no ∧ Ext w w' := by
  refine D25 ?_
  unfold S25
  rw [show flt no a = .iface 96 (.agg #[.int .i64 no, .int .i64 0, .int .i64 a]) from rfl, Pure.run (e_nil _ _ _ _)]
  simp only [JoinP.eq, PickP.eq, GuardP.yes, GuardP.undef, GuardP.no (show (true == false) = false from rfl), GuardP.no (show (false == true) = false from rfl), CondP.tt, CondP.ff, add_r, sub_r, mul_r, lss_r, leq_r, gtr_r, geq_r, eql_r, neq_r, eqs_r, nes_r, not_r, nil_r, Bool.not_true, Bool.not_false, if_true, if_false, Bool.false_eq_true, decide_true, decide_false, Nat.zero_add, Bool.and_true, Bool.true_and]
  refine LoopP.of3 (fun _ f n w' => ∃ k : Int, 1 ≤ k ∧ k ≤ 27 ∧ n = .int .i64 k ∧ f = .int .i64 (if no < k then no else 0) ∧ Ext w w') (fun _ _ n _ => 27 - (intOf n).toNat) ⟨1, by omega, by omega, rfl, by rw [if_neg (by omega)], Ext.refl _⟩ ?_
  rintro _ _ _ w1 ⟨k, k1, k2, rfl, rfl, x1⟩
  simp only [leq_r]
  refine CondP.dec (fun h => ?_) (fun h => ?_)
  · simp only [JoinP.eq]
    rw [Pure.run (i_err _)]
    refine GoN.does pl53 (isErr no a k w1) ?_
    rintro _ w2 ⟨rfl, x2⟩
    have fin : ∀ (f : Int), f = (if no < k + 1 then no else 0) → (∃ k_1 : Int, 1 ≤ k_1 ∧ k_1 ≤ 27 ∧ Value.int .i64 (IntKind.i64.wrap (k + 1)) = .int .i64 k_1 ∧ Value.int .i64 f = .int .i64 (if no < k_1 then no else 0) ∧ Ext w w2) ∧
        27 - (intOf (Value.int .i64 (IntKind.i64.wrap (k + 1)))).toNat < 27 - (intOf (Value.int .i64 k)).toNat := by
      rintro f rfl
      rw [wrap64_id (by omega) (by omega)]
      refine ⟨⟨k + 1, by omega, by omega, rfl, rfl, x1.trans x2⟩, ?_⟩
      simp only [intOf]; omega
    refine CondP.of (fun h => ?_) (fun h => ?_)
    · have hk : no = k := by simpa using h
      subst hk
      rw [if_neg (by omega)]
      simp only [JoinP.eq, PickP.eq, GuardP.yes, GuardP.undef, GuardP.no (show (true == false) = false from rfl), GuardP.no (show (false == true) = false from rfl), CondP.tt, CondP.ff, add_r, sub_r, mul_r, lss_r, leq_r, gtr_r, geq_r, eql_r, neq_r, eqs_r, nes_r, not_r, nil_r, Bool.not_true, Bool.not_false, if_true, if_false, Bool.false_eq_true, decide_true, decide_false, Nat.zero_add, Bool.and_true, Bool.true_and]
      exact fin no (by rw [if_pos (by omega)])
    · have hk : no ≠ k := by simpa using h
      simp only [JoinP.eq, PickP.eq, GuardP.yes, GuardP.undef, GuardP.no (show (true == false) = false from rfl), GuardP.no (show (false == true) = false from rfl), CondP.tt, CondP.ff, add_r, sub_r, mul_r, lss_r, leq_r, gtr_r, geq_r, eql_r, neq_r, eqs_r, nes_r, not_r, nil_r, Bool.not_true, Bool.not_false, if_true, if_false, Bool.false_eq_true, decide_true, decide_false, Nat.zero_add, Bool.and_true, Bool.true_and]
      exact fin _ (by split <;> split <;> omega)
  · rw [if_pos (by omega)]
    simp only [eql_r]
    rw [decide_eq_false (show ¬ no = 0 by omega)]
    simp only [JoinP.eq, PickP.eq, GuardP.yes, GuardP.undef, GuardP.no (show (true == false) = false from rfl), GuardP.no (show (false == true) = false from rfl), CondP.tt, CondP.ff, add_r, sub_r, mul_r, lss_r, leq_r, gtr_r, geq_r, eql_r, neq_r, eqs_r, nes_r, not_r, nil_r, Bool.not_true, Bool.not_false, if_true, if_false, Bool.false_eq_true, decide_true, decide_false, Nat.zero_add, Bool.and_true, Bool.true_and]
    rw [Pure.run (i_err _)]
    refine GoN.does pl53 (isErr no a 0 w1) ?_
    rintro _ w2 ⟨rfl, x2⟩
    have : (no == 0) = false := by simp; omega
    rw [this]
    simp only [JoinP.eq, PickP.eq, GuardP.yes, GuardP.undef, GuardP.no (show (true == false) = false from rfl), GuardP.no (show (false == true) = false from rfl), CondP.tt, CondP.ff, add_r, sub_r, mul_r, lss_r, leq_r, gtr_r, geq_r, eql_r, neq_r, eqs_r, nes_r, not_r, nil_r, Bool.not_true, Bool.not_false, if_true, if_false, Bool.false_eq_true, decide_true, decide_false, Nat.zero_add, Bool.and_true, Bool.true_and]
    exact ⟨by first | rfl | trivial, x1.trans x2⟩
end Go.Proofs.YtmgleeoecdodjaaDoor.Sh
