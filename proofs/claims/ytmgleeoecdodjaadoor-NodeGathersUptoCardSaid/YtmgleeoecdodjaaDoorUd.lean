/- What the statements' package says of an error: its place; that it is as told. Conditions: the library's variable on the type error as laid. -/
import Derived.Test.YtmgleeoecdodjaaDoorUc
set_option linter.unusedVariables false
set_option linter.unusedSimpArgs false
set_option maxRecDepth 10000
namespace Go.Proofs.YtmgleeoecdodjaaDoor.Sh
open Go Go.V Go.RowKit Go.Extern

theorem place {no a : Int} {w : World} (h1 : 1 ≤ no) (h2 : no ≤ 26) (hg : w.cell? ⟨0, 0, none⟩ = some (rty 42)) :
    Does Tryd.prog 24 [flt no a] w fun v w' => v = .tuple #[.int .i64 0, .int .i64 a, .bool true] ∧ Ext w w' := by
  refine D24 ?_
  unfold S24
  refine r_alloc zero96 fun w1 e1 z1 b1 => ?_
  rw [show flt no a = .iface 96 (.agg #[.int .i64 no, .int .i64 0, .int .i64 a]) from rfl, Pure.run (e_nil _ _ _ _)]
  simp only [JoinP.eq, PickP.eq, GuardP.yes, GuardP.undef, GuardP.no (show (true == false) = false from rfl), GuardP.no (show (false == true) = false from rfl), CondP.tt, CondP.ff, add_r, sub_r, mul_r, lss_r, leq_r, gtr_r, geq_r, eql_r, neq_r, eqs_r, nes_r, not_r, nil_r, Bool.not_true, Bool.not_false, if_true, if_false, Bool.false_eq_true, decide_true, decide_false, Nat.zero_add, Bool.and_true, Bool.true_and]
  rw [Pure.run (i_ptr _)]
  refine GoN.does pl52 (asErr b1 rfl (cell_ext hg e1)) ?_
  rintro _ w2 ⟨rfl, x2, b2⟩
  have e2 : Ext w w2 := Below.trans e1 x2
  simp only [JoinP.eq, PickP.eq, GuardP.yes, GuardP.undef, GuardP.no (show (true == false) = false from rfl), GuardP.no (show (false == true) = false from rfl), CondP.tt, CondP.ff, add_r, sub_r, mul_r, lss_r, leq_r, gtr_r, geq_r, eql_r, neq_r, eqs_r, nes_r, not_r, nil_r, Bool.not_true, Bool.not_false, if_true, if_false, Bool.false_eq_true, decide_true, decide_false, Nat.zero_add, Bool.and_true, Bool.true_and]
  intro w3 e3
  have b3 := b2.ext e3
  rw [Pure.runQ (p_field fld96_1)]
  refine q_load1 one3 (v := .int .i64 0) (b3.get rfl) ?_
  rw [Pure.runQ (p_field fld96_2)]
  refine q_load1 one3 (v := .int .i64 a) (b3.get rfl) ?_
  rw [Pure.runQ (p_field fld96_0)]
  refine q_load1 one94 (v := .int .i64 no) (b3.get rfl) ?_
  refine GoN.does pl25 (num no a w3 h1 h2) ?_
  rintro _ w4 ⟨rfl, x4⟩
  refine ⟨x4, ?_⟩
  simp only [eql_q, decide_true]
  exact ⟨by first | rfl | trivial, (e2.trans e3).trans x4⟩
/-- The error with this number and place is as told; no error is none. -/
theorem atFault {no a : Int} {w : World} (h1 : 1 ≤ no) (h2 : no ≤ 26) (hg : w.cell? ⟨0, 0, none⟩ = some (rty 42)) :
    Does Tryd.prog 9 [flt no a, .int .i64 no, .int .i64 0, .int .i64 a] w (Yes w) := by
  refine D9 ?_
  unfold S9
  simp only [eql_r]
  rw [decide_eq_false (show ¬ no = 0 by omega)]
  simp only [JoinP.eq, PickP.eq, GuardP.yes, GuardP.undef, GuardP.no (show (true == false) = false from rfl), GuardP.no (show (false == true) = false from rfl), CondP.tt, CondP.ff, add_r, sub_r, mul_r, lss_r, leq_r, gtr_r, geq_r, eql_r, neq_r, eqs_r, nes_r, not_r, nil_r, Bool.not_true, Bool.not_false, if_true, if_false, Bool.false_eq_true, decide_true, decide_false, Nat.zero_add, Bool.and_true, Bool.true_and]
  refine GoN.does pl24 (place h1 h2 hg) ?_
  rintro _ w1 ⟨rfl, e1⟩
  simp only [Pure.run (x3_0 _ _ _), Pure.run (x3_1 _ _ _), Pure.run (x3_2 _ _ _)]
  refine GoN.does pl25 (num no a w1 h1 h2) ?_
  rintro _ w2 ⟨rfl, e2⟩
  simp only [eql_r, decide_true, JoinP.eq, PickP.eq, GuardP.yes, GuardP.undef, GuardP.no (show (true == false) = false from rfl), GuardP.no (show (false == true) = false from rfl), CondP.tt, CondP.ff, add_r, sub_r, mul_r, lss_r, leq_r, gtr_r, geq_r, eql_r, neq_r, eqs_r, nes_r, not_r, nil_r, Bool.not_true, Bool.not_false, if_true, if_false, Bool.false_eq_true, decide_true, decide_false, Nat.zero_add, Bool.and_true, Bool.true_and]
  exact ⟨rfl, e1.trans e2⟩
theorem atNone {a : Int} {w : World} : Does Tryd.prog 9 [.nilIface, .int .i64 0, .int .i64 0, .int .i64 a] w (Yes w) := by
  refine D9 ?_
  unfold S9
  simp only [eql_r, decide_true, JoinP.eq, PickP.eq, GuardP.yes, GuardP.undef, GuardP.no (show (true == false) = false from rfl), GuardP.no (show (false == true) = false from rfl), CondP.tt, CondP.ff, add_r, sub_r, mul_r, lss_r, leq_r, gtr_r, geq_r, eql_r, neq_r, eqs_r, nes_r, not_r, nil_r, Bool.not_true, Bool.not_false, if_true, if_false, Bool.false_eq_true, decide_true, decide_false, Nat.zero_add, Bool.and_true, Bool.true_and]
  rw [Pure.run (e_nilnil _)]
  exact ⟨rfl, Ext.refl _⟩
end Go.Proofs.YtmgleeoecdodjaaDoor.Sh
