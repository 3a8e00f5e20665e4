/- What a part is called. Conditions: none. -/
import Derived.Test.YtmgleeoecdodjaaDoorTg
set_option linter.unusedVariables false
set_option linter.unusedSimpArgs false
set_option maxRecDepth 10000
namespace Go.Proofs.YtmgleeoecdodjaaDoor.Sh
open Go Go.V Go.RowKit

def DNode.kname : DNode → ByteArray
  | .ver _ => ⟨#[118, 101, 114, 115, 105, 111, 110]⟩
  | .sta _ => ⟨#[115, 116, 97, 116, 105, 111, 110, 115]⟩
  | .msg _ => ⟨#[109, 101, 115, 115, 97, 103, 101]⟩
  | .tab _ => ⟨#[116, 97, 98, 108, 101]⟩
theorem bRank (a : Int) (b : ByteArray) (w : World) : (Instr.build 92 #[(0, .int .i64 a), (1, .string b)]).run Tryd.prog w = .ok (.agg #[.int .i64 a, .string b]) w := by kernel_rfl
theorem fRank (a : Int) (b : ByteArray) (w : World) : (Instr.field 92 (.agg #[.int .i64 a, .string b]) 1).run Tryd.prog w = .ok (.string b) w := by kernel_rfl
theorem kind1 {n : PNode} {w : World} (h : n.one) : Does Tryd.prog 23 [n.val] w fun r w' => r = .agg #[.int .i64 n.data.kind, .string n.data.kname] ∧ Ext w w' := by
  obtain ⟨za, pa, _, _, _⟩ := as_ver h
  obtain ⟨zs, ps, _, _, _⟩ := as_sta h
  obtain ⟨zm, pm, _, _, _⟩ := as_msg h
  obtain ⟨zt, pt, _, _, _⟩ := as_tab h
  refine D23 ?_
  unfold S23
  refine r_alloc zero92 fun w1 e1 z1 b1 => ?_
  have fin : ∀ (a : Int) (b : ByteArray) (K : Value → World → Prop), (∀ w', Ext w w' → K (.agg #[.int .i64 a, .string b]) w') →
      RunU Tryd.prog (Instr.storeAt 92 (.pointer (some ⟨w.heap.size, 0, none⟩)) (.agg #[.int .i64 a, .string b])) w1 fun w6 => resK Tryd.prog (.pointer (some ⟨w.heap.size, 0, none⟩)) 92 w6 fun r0 => K r0 w6 := by
    intro a b K hK
    refine r_store size92 (l := [.int .i64 a, .string b]) rfl rfl (all_one rfl) b1 (by decide) fun w2 c2 b2 => ?_
    exact k_loadN agg92 (l := [.int .i64 a, .string b]) rfl b2.at (hK _ (e1.chg c2 (Nat.le_refl _)))
  simp only [JoinP.eq, Pure.run pa, Pure.run ps, Pure.run pm, Pure.run pt, Pure.run p_ext_0, Pure.run p_ext_1]
  cases n with
  | ver y =>
    simp only [show decide ((PNode.ver y).data.kind = 1) = true from rfl, JoinP.eq, PickP.eq, GuardP.yes, GuardP.undef, GuardP.no (show (true == false) = false from rfl), GuardP.no (show (false == true) = false from rfl), CondP.tt, CondP.ff, add_r, sub_r, mul_r, lss_r, leq_r, gtr_r, geq_r, eql_r, neq_r, eqs_r, nes_r, not_r, nil_r, Bool.not_true, Bool.not_false, if_true, if_false, Bool.false_eq_true, decide_true, decide_false, Nat.zero_add, Bool.and_true, Bool.true_and]
    rw [Run.eq (bRank _ _ _)]
    exact fin _ _ (fun r w' => r = _ ∧ Ext w w') fun w' e => ⟨rfl, e⟩
  | sta y v =>
    simp only [show decide ((PNode.sta y v).data.kind = 1) = false from rfl, show decide ((PNode.sta y v).data.kind = 2) = true from rfl, JoinP.eq, PickP.eq, GuardP.yes, GuardP.undef, GuardP.no (show (true == false) = false from rfl), GuardP.no (show (false == true) = false from rfl), CondP.tt, CondP.ff, add_r, sub_r, mul_r, lss_r, leq_r, gtr_r, geq_r, eql_r, neq_r, eqs_r, nes_r, not_r, nil_r, Bool.not_true, Bool.not_false, if_true, if_false, Bool.false_eq_true, decide_true, decide_false, Nat.zero_add, Bool.and_true, Bool.true_and]
    rw [Run.eq (bRank _ _ _)]
    exact fin _ _ (fun r w' => r = _ ∧ Ext w w') fun w' e => ⟨rfl, e⟩
  | msg y v tvs =>
    simp only [show decide ((PNode.msg y v tvs).data.kind = 1) = false from rfl, show decide ((PNode.msg y v tvs).data.kind = 2) = false from rfl, show decide ((PNode.msg y v tvs).data.kind = 3) = true from rfl, JoinP.eq, PickP.eq, GuardP.yes, GuardP.undef, GuardP.no (show (true == false) = false from rfl), GuardP.no (show (false == true) = false from rfl), CondP.tt, CondP.ff, add_r, sub_r, mul_r, lss_r, leq_r, gtr_r, geq_r, eql_r, neq_r, eqs_r, nes_r, not_r, nil_r, Bool.not_true, Bool.not_false, if_true, if_false, Bool.false_eq_true, decide_true, decide_false, Nat.zero_add, Bool.and_true, Bool.true_and]
    rw [Run.eq (bRank _ _ _)]
    exact fin _ _ (fun r w' => r = _ ∧ Ext w w') fun w' e => ⟨rfl, e⟩
  | tab y v =>
    simp only [show decide ((PNode.tab y v).data.kind = 1) = false from rfl, show decide ((PNode.tab y v).data.kind = 2) = false from rfl, show decide ((PNode.tab y v).data.kind = 3) = false from rfl, show decide ((PNode.tab y v).data.kind = 4) = true from rfl, JoinP.eq, PickP.eq, GuardP.yes, GuardP.undef, GuardP.no (show (true == false) = false from rfl), GuardP.no (show (false == true) = false from rfl), CondP.tt, CondP.ff, add_r, sub_r, mul_r, lss_r, leq_r, gtr_r, geq_r, eql_r, neq_r, eqs_r, nes_r, not_r, nil_r, Bool.not_true, Bool.not_false, if_true, if_false, Bool.false_eq_true, decide_true, decide_false, Nat.zero_add, Bool.and_true, Bool.true_and]
    rw [Run.eq (bRank _ _ _)]
    exact fin _ _ (fun r w' => r = _ ∧ Ext w w') fun w' e => ⟨rfl, e⟩
theorem kindName {n : PNode} {w : World} (h : n.one) : Does Tryd.prog 11 [n.val] w fun r w' => r = .string n.data.kname ∧ Ext w w' := by
  refine D11 ?_
  unfold S11
  refine GoN.does pl23 (kind1 h) ?_
  rintro _ w1 ⟨rfl, e1⟩
  rw [Run.eq (fRank _ _ _)]
  exact ⟨rfl, e1⟩
end Go.Proofs.YtmgleeoecdodjaaDoor.Sh
