/- errors.As at a Fault; the place of a Fault; what the statements' package says of an error. Conditions: the library's variable on the type error as laid. -/
import Derived.Test.YtmgleeoecdodjaaDoorUb
set_option linter.unusedVariables false
set_option linter.unusedSimpArgs false
set_option maxRecDepth 10000
namespace Go.Proofs.YtmgleeoecdodjaaDoor.Sh
open Go Go.V Go.RowKit Go.Extern

theorem blk_alloc (w : World) (l : List Value) (t : TypeId) : Blk (w.alloc (.cells l.toArray t)) w.heap.size l t := by
  unfold Blk
  rw [heap_alloc_new]
def valP (b : Nat) : Value := .agg #[hnd 135, .pointer (some ⟨b, 0, none⟩), .int .u64 150]
theorem rmap (f : TypeId → Sem Nat) : (ReflectliteType.abiMethod fun t => do pure (.int .u8 (← f t))) = (ReflectliteType.abiMethod fun t => (fun a : Nat => Value.int IntKind.u8 (a : Int)) <$> f t) := by
  congr 1
/-- errors.as of a Fault, at a Fault's variable. -/
theorem as_ {no a : Int} {tb pb : Nat} {old : List Value} {w : World} (ht : Blk w tb old 96) (hl : old.length = 3) (hp : Blk w pb [.pointer (some ⟨tb, 0, none⟩)] 135) :
    Does Tryd.prog 71 [flt no a, .iface 135 (.pointer (some ⟨tb, 0, none⟩)), valP pb, rty 96] w fun v w' => v = .bool true ∧ Below tb w w' ∧ Blk w' tb [.int .i64 no, .int .i64 0, .int .i64 a] 96 := by
  have hlt := ht.lt
  refine D71 ?_
  unfold S71
  refine r_box fun w1 e1 z1 b1 => ?_
  have b1 : Blk w1 w.heap.size [hnd 135, .pointer (some ⟨pb, 0, none⟩), .int .u64 150] 173 := b1
  simp only [JoinP.eq]
  refine LoopP.of2 (fun e _ w' => e = flt no a ∧ w1 = w') (fun _ _ _ => 0) ⟨rfl, rfl⟩ ?_
  rintro _ t8 _ ⟨rfl, rfl⟩
  refine GoN.ext (e := ReflectliteType.typeOf) Tryd.func72 (by kernel_rfl) (by kernel_rfl) (by kernel_rfl) (by kernel_rfl) (n_typeOfFault _ w1) ?_
  unfold rty
  refine GoN.methM (m_assignable _ _) (GoN.ext (e := ReflectliteType.relation "AssignableTo" ReflectliteType.assignableTo) Tryd.func107 (by kernel_rfl) (by kernel_rfl) (by kernel_rfl) (by kernel_rfl) (n_assignable w1) ?_)
  simp only [JoinP.eq, PickP.eq, GuardP.yes, GuardP.undef, GuardP.no (show (true == false) = false from rfl), GuardP.no (show (false == true) = false from rfl), CondP.tt, CondP.ff, add_r, sub_r, mul_r, lss_r, leq_r, gtr_r, geq_r, eql_r, neq_r, eqs_r, nes_r, not_r, nil_r, Bool.not_true, Bool.not_false, if_true, if_false, Bool.false_eq_true, decide_true, decide_false, Nat.zero_add, Bool.and_true, Bool.true_and]
  rw [ldN b1 agg173 (o := 0) rfl]
  have hc : w1.cell? ⟨pb, 0, none⟩ = some (.pointer (some ⟨tb, 0, none⟩)) := (hp.ext e1).get rfl
  refine GoN.ext (e := ReflectliteValue.method (ReflectliteValue.valueError "reflectlite.Value.Elem" 0) ReflectliteValue.elem) Tryd.func76 (by kernel_rfl) (by kernel_rfl) (by kernel_rfl) (by kernel_rfl) (n_elemVP ⟨pb, 0, none⟩ ⟨tb, 0, none⟩ w1 hc) ?_
  refine GoN.ext (e := fun args => ReflectliteValue.unpack (args.getD 0 (.tuple #[]))) Tryd.func68 (by kernel_rfl) (by kernel_rfl) (by kernel_rfl) (by kernel_rfl) (n_valueOfF no 0 a w1) ?_
  have b2 := blk_alloc w1 [.int .i64 no, .int .i64 0, .int .i64 a] 96
  have e2 : Ext w1 (w1.alloc (.cells #[.int .i64 no, .int .i64 0, .int .i64 a] 96)) := alloc_ext _ _
  obtain ⟨v, w3, h3, hk⟩ := n_setF (W := w1.alloc (.cells #[.int .i64 no, .int .i64 0, .int .i64 a] 96)) (K := fun v w' => v = .tuple #[] ∧ Below tb w w' ∧ Blk w' tb [.int .i64 no, .int .i64 0, .int .i64 a] 96) b2 ((ht.ext e1).ext e2) hl
    (fun w' c b => ⟨rfl, Go.V.Below.chg (Below.mono (e1.trans e2) (Nat.le_of_lt hlt)) c (Nat.le_refl _), b⟩)
  refine GoN.ext (e := ReflectliteValue.set) Tryd.func77 (by kernel_rfl) (by kernel_rfl) (by kernel_rfl) (by kernel_rfl) h3 ?_
  exact ⟨by first | rfl | trivial, hk.2⟩
/-- errors.As of a Fault, at a Fault's variable. -/
theorem asErr {no a : Int} {tb : Nat} {old : List Value} {w : World} (ht : Blk w tb old 96) (hl : old.length = 3) (hg : w.cell? ⟨0, 0, none⟩ = some (rty 42)) :
    Does Tryd.prog 52 [flt no a, .iface 135 (.pointer (some ⟨tb, 0, none⟩))] w fun v w' => v = .bool true ∧ Below tb w w' ∧ Blk w' tb [.int .i64 no, .int .i64 0, .int .i64 a] 96 := by
  have hlt := ht.lt
  refine D52 ?_
  unfold S52
  rw [show flt no a = .iface 96 (.agg #[.int .i64 no, .int .i64 0, .int .i64 a]) from rfl, Pure.run (e_nil _ _ _ _)]
  simp only [JoinP.eq, PickP.eq, GuardP.yes, GuardP.undef, GuardP.no (show (true == false) = false from rfl), GuardP.no (show (false == true) = false from rfl), CondP.tt, CondP.ff, add_r, sub_r, mul_r, lss_r, leq_r, gtr_r, geq_r, eql_r, neq_r, eqs_r, nes_r, not_r, nil_r, Bool.not_true, Bool.not_false, if_true, if_false, Bool.false_eq_true, decide_true, decide_false, Nat.zero_add, Bool.and_true, Bool.true_and, Pure.run (e_nilP _ _ _ _)]
  refine GoN.ext (e := fun args => ReflectliteValue.unpack (args.getD 0 (.tuple #[]))) Tryd.func68 (by kernel_rfl) (by kernel_rfl) (by kernel_rfl) (by kernel_rfl) (n_valueOfP ⟨tb, 0, none⟩ w) ?_
  have e1 : Ext w (w.alloc (.cells #[.pointer (some ⟨tb, 0, none⟩)] 135)) := alloc_ext _ _
  have b1 := blk_alloc w [.pointer (some ⟨tb, 0, none⟩)] 135
  have b1 : Blk (w.alloc (.cells #[.pointer (some ⟨tb, 0, none⟩)] 135)) w.heap.size [.pointer (some ⟨tb, 0, none⟩)] 135 := b1
  generalize (w.alloc (.cells #[.pointer (some ⟨tb, 0, none⟩)] 135)) = w1 at *
  refine r_alloc zero173 fun w2 e2 z2 b2 => ?_
  refine r_store size173 (l := [hnd 135, .pointer (some ⟨w.heap.size, 0, none⟩), .int .u64 150]) rfl rfl (all_one rfl) b2 (by decide) fun w3 c3 b3 => ?_
  have b3 : Blk w3 w1.heap.size [hnd 135, .pointer (some ⟨w.heap.size, 0, none⟩), .int .u64 150] 173 := b3
  have e13 : Ext w1 w3 := e2.chg c3 (Nat.le_refl _)
  have e03 := e1.trans e13
  rw [ldN b3 agg173 (o := 0) rfl]
  refine GoN.ext (e := ReflectliteValue.methodAny (ReflectliteValue.valueError "reflectlite.Value.Type" 0) (fun t _ _ _ => ReflectliteType.toType t)) Tryd.func69 (by kernel_rfl) (by kernel_rfl) (by kernel_rfl) (by kernel_rfl) (n_typeP ⟨w.heap.size, 0, none⟩ w3) ?_
  unfold rty
  refine GoN.methM (m_kind _ _) (GoN.ext (e := ReflectliteType.abiMethod fun t => do pure (.int .u8 (← Rtype.kind t))) Tryd.func93 (by kernel_rfl) (by kernel_rfl) (by kernel_rfl) (by kernel_rfl) (n_kindP w3) ?_)
  simp only [neq_r, decide_true, JoinP.eq, PickP.eq, GuardP.yes, GuardP.undef, GuardP.no (show (true == false) = false from rfl), GuardP.no (show (false == true) = false from rfl), CondP.tt, CondP.ff, add_r, sub_r, mul_r, lss_r, leq_r, gtr_r, geq_r, eql_r, neq_r, eqs_r, nes_r, not_r, nil_r, Bool.not_true, Bool.not_false, if_true, if_false, Bool.false_eq_true, decide_true, decide_false, Nat.zero_add, Bool.and_true, Bool.true_and, ldN b3 agg173 (o := 0) rfl]
  have hc : w3.cell? ⟨w.heap.size, 0, none⟩ = some (.pointer (some ⟨tb, 0, none⟩)) := (b1.ext e13).get rfl
  refine GoN.ext (e := ReflectliteValue.method (ReflectliteValue.valueError "reflectlite.Value.IsNil" 0) ReflectliteValue.isNil) Tryd.func70 (by kernel_rfl) (by kernel_rfl) (by kernel_rfl) (by kernel_rfl) (n_isNilP ⟨w.heap.size, 0, none⟩ ⟨tb, 0, none⟩ w3 hc) ?_
  simp only [JoinP.eq, PickP.eq, GuardP.yes, GuardP.undef, GuardP.no (show (true == false) = false from rfl), GuardP.no (show (false == true) = false from rfl), CondP.tt, CondP.ff, add_r, sub_r, mul_r, lss_r, leq_r, gtr_r, geq_r, eql_r, neq_r, eqs_r, nes_r, not_r, nil_r, Bool.not_true, Bool.not_false, if_true, if_false, Bool.false_eq_true, decide_true, decide_false, Nat.zero_add, Bool.and_true, Bool.true_and]
  refine GoN.methM (m_elem _ _) (GoN.ext (e := ReflectliteType.method ReflectliteType.elem) Tryd.func109 (by kernel_rfl) (by kernel_rfl) (by kernel_rfl) (by kernel_rfl) (n_elemP w3) ?_)
  unfold rty
  refine GoN.methM (m_kind _ _) (GoN.ext (e := ReflectliteType.abiMethod fun t => do pure (.int .u8 (← Rtype.kind t))) Tryd.func93 (by kernel_rfl) (by kernel_rfl) (by kernel_rfl) (by kernel_rfl) (n_kindF w3) ?_)
  simp only [neq_r, show (!decide ((25 : Int) = 20)) = true from rfl, JoinP.eq, PickP.eq, GuardP.yes, GuardP.undef, GuardP.no (show (true == false) = false from rfl), GuardP.no (show (false == true) = false from rfl), CondP.tt, CondP.ff, add_r, sub_r, mul_r, lss_r, leq_r, gtr_r, geq_r, eql_r, neq_r, eqs_r, nes_r, not_r, nil_r, Bool.not_true, Bool.not_false, if_true, if_false, Bool.false_eq_true, decide_true, decide_false, Nat.zero_add, Bool.and_true, Bool.true_and]
  rw [ldc one176 (cell_ext hg e03)]
  refine GoN.methM (m_implements _ _) (GoN.ext (e := ReflectliteType.relation "Implements" ReflectliteType.implements_) Tryd.func110 (by kernel_rfl) (by kernel_rfl) (by kernel_rfl) (by kernel_rfl) (n_implements w3) ?_)
  simp only [JoinP.eq, PickP.eq, GuardP.yes, GuardP.undef, GuardP.no (show (true == false) = false from rfl), GuardP.no (show (false == true) = false from rfl), CondP.tt, CondP.ff, add_r, sub_r, mul_r, lss_r, leq_r, gtr_r, geq_r, eql_r, neq_r, eqs_r, nes_r, not_r, nil_r, Bool.not_true, Bool.not_false, if_true, if_false, Bool.false_eq_true, decide_true, decide_false, Nat.zero_add, Bool.and_true, Bool.true_and, ldN b3 agg173 (o := 0) rfl]
  refine GoN.does pl71 (as_ (no := no) (a := a) (tb := tb) (pb := w.heap.size) (ht.ext e03) hl (b1.ext e13)) ?_
  rintro _ w4 ⟨rfl, h4, b4⟩
  exact ⟨by first | rfl | trivial, (Below.mono e03 (Nat.le_of_lt hlt)).trans h4, b4⟩
end Go.Proofs.YtmgleeoecdodjaaDoor.Sh
