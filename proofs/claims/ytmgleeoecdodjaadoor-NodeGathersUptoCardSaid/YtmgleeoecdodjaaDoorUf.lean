/- Parts, or none, and what they are called; what a database gathered of parts is. Conditions: lengths up to 2^30. -/
import Derived.Test.YtmgleeoecdodjaaDoorUe
set_option linter.unusedVariables false
set_option linter.unusedSimpArgs false
set_option maxRecDepth 10000
namespace Go.V
open Go.RowKit
variable {P : Program}
theorem Pure.g {s : Sem Value} {v : Value} {E : World → Prop} {K : Value → Prop} (h : Pure P s v) (k : K v) : RunG P s E K := ⟨v, fun w1 _ => h w1, k⟩
/-- 'append(v, x)' in a region whose order is drawn. -/
theorem r_append1D {t e sz bytes ty n : Nat} (ht : SlT P t e sz bytes) {v x : Value} {w w0 : World} {xs : List Value} {K : Value → World → Prop} (hown : Own w e sz v n xs) (h0 : Ext w0 w)
    (hx : x.cells.size = sz) (h1 : ∀ u ∈ x.cells.toList, u.oneCell' = true) (h63 : n + 1 ≤ maxLen) (hb : (n + 1) * bytes ≤ 140737488355328)
    (k : ∀ v' w', Own w' e sz v' (n + 1) (xs ++ x.cells.toList) → Grow w w' v v' → K v' w') :
    Run P (Instr.buildSlice t 1 #[(0, x)]) w fun y w1 => Ext w0 w1 ∧ Run P (Builtin.append_ #[t, t] ty #[v, y]) w1 K := by
  have he := alloc_ext w (.cells x.cells e)
  have hblk : Blk (w.alloc (.cells x.cells e)) w.heap.size x.cells.toList e := by unfold Blk; rw [heap_alloc_new]
  refine .of (run_build1 ht hx w) ⟨h0.trans he, r_append ht (hown.ext he) (b := w.heap.size) (o := 0) (news := x.cells.toList) (by have := hblk.at; exact this) (by simpa using hx) h1 h63 hb fun v' w' h2 h3 => k v' w' h2 ?_⟩
  exact Grow.of_ext he h3 fun k hk => hown.lt hk
end Go.V
namespace Go.Proofs.YtmgleeoecdodjaaDoor.Sh
open Go Go.V Go.RowKit

def oval : Option PNode → Value
  | some n => n.val
  | none => .nilIface
def okind : Option PNode → Int
  | some n => n.data.kind
  | none => 0
def oname : Option PNode → ByteArray
  | some n => n.data.kname
  | none => ⟨#[]⟩
def oone : Option PNode → Prop
  | some n => n.one
  | none => True
theorem no_ver (w : World) : (Instr.typeAssert .nilIface 49 25 true).run Tryd.prog w = .ok (.tuple #[.agg (DVer.cells ⟨0, 0, ByteArray.empty⟩).toArray, .bool false]) w := by kernel_rfl
theorem no_sta (w : World) : (Instr.typeAssert .nilIface 49 28 true).run Tryd.prog w = .ok (.tuple #[.agg #[.int .i64 0, .int .i64 0, .slice none 0 0], .bool false]) w := by kernel_rfl
theorem no_msg (w : World) : (Instr.typeAssert .nilIface 49 77 true).run Tryd.prog w = .ok (.tuple #[.agg #[.int .i64 0, .int .i64 0, .int .u32 0, .bool false, .string ByteArray.empty, .int .i64 0, .string ByteArray.empty, .slice none 0 0], .bool false]) w := by kernel_rfl
theorem no_tab (w : World) : (Instr.typeAssert .nilIface 49 81 true).run Tryd.prog w = .ok (.tuple #[.agg #[.int .i64 0, .int .i64 0, .int .u32 0, .bool false, .string ByteArray.empty, .slice none 0 0], .bool false]) w := by kernel_rfl
theorem bRank0 (w : World) : (Instr.build 92 #[]).run Tryd.prog w = .ok (.agg #[.int .i64 0, .string ByteArray.empty]) w := by kernel_rfl
theorem fRank0 (a : Int) (b : ByteArray) (w : World) : (Instr.field 92 (.agg #[.int .i64 a, .string b]) 0).run Tryd.prog w = .ok (.int .i64 a) w := by kernel_rfl
theorem kindO {o : Option PNode} {w : World} (h : oone o) : Does Tryd.prog 23 [oval o] w fun r w' => r = .agg #[.int .i64 (okind o), .string (oname o)] ∧ Ext w w' := by
  cases o with
  | some n => exact kind1 h
  | none =>
    refine D23 ?_
    unfold S23
    refine r_alloc zero92 fun w1 e1 z1 b1 => ?_
    unfold oval
    simp only [JoinP.eq, Run.eq (no_ver _), Run.eq (no_sta _), Run.eq (no_msg _), Run.eq (no_tab _), Pure.run p_ext_0, Pure.run p_ext_1, JoinP.eq, PickP.eq, GuardP.yes, GuardP.undef, GuardP.no (show (true == false) = false from rfl), GuardP.no (show (false == true) = false from rfl), CondP.tt, CondP.ff, add_r, sub_r, mul_r, lss_r, leq_r, gtr_r, geq_r, eql_r, neq_r, eqs_r, nes_r, not_r, nil_r, Bool.not_true, Bool.not_false, if_true, if_false, Bool.false_eq_true, decide_true, decide_false, Nat.zero_add, Bool.and_true, Bool.true_and, Run.eq (bRank0 _)]
    refine r_store size92 (l := [.int .i64 0, .string ByteArray.empty]) rfl rfl (all_one rfl) b1 (by decide) fun w2 c2 b2 => ?_
    exact k_loadN agg92 (l := [.int .i64 0, .string ByteArray.empty]) rfl b2.at ⟨rfl, e1.chg c2 (Nat.le_refl _)⟩
theorem kindNameO {o : Option PNode} {w : World} (h : oone o) : Does Tryd.prog 11 [oval o] w fun r w' => r = .string (oname o) ∧ Ext w w' := by
  refine D11 ?_
  unfold S11
  refine GoN.does pl23 (kindO h) ?_
  rintro _ w1 ⟨rfl, e1⟩
  rw [Run.eq (fRank _ _ _)]
  exact ⟨rfl, e1⟩
theorem refName (o : Option PNode) (w : World) : Does Tryd.prog 12 [.int .i64 (okind o)] w fun r w' => r = .string (oname o) ∧ w = w' := by
  refine D12 ?_
  unfold S12
  cases o with
  | none => simp only [okind, JoinP.eq, PickP.eq, GuardP.yes, GuardP.undef, GuardP.no (show (true == false) = false from rfl), GuardP.no (show (false == true) = false from rfl), CondP.tt, CondP.ff, add_r, sub_r, mul_r, lss_r, leq_r, gtr_r, geq_r, eql_r, neq_r, eqs_r, nes_r, not_r, nil_r, Bool.not_true, Bool.not_false, if_true, if_false, Bool.false_eq_true, decide_true, decide_false, Nat.zero_add, Bool.and_true, Bool.true_and, show decide ((0 : Int) = 1) = false from rfl, show decide ((0 : Int) = 2) = false from rfl, show decide ((0 : Int) = 3) = false from rfl, show decide ((0 : Int) = 4) = false from rfl]; exact ⟨rfl, by first | rfl | trivial⟩
  | some n =>
    cases n with
    | ver y => simp only [okind, PNode.data, DNode.kind, JoinP.eq, PickP.eq, GuardP.yes, GuardP.undef, GuardP.no (show (true == false) = false from rfl), GuardP.no (show (false == true) = false from rfl), CondP.tt, CondP.ff, add_r, sub_r, mul_r, lss_r, leq_r, gtr_r, geq_r, eql_r, neq_r, eqs_r, nes_r, not_r, nil_r, Bool.not_true, Bool.not_false, if_true, if_false, Bool.false_eq_true, decide_true, decide_false, Nat.zero_add, Bool.and_true, Bool.true_and]; exact ⟨rfl, by first | rfl | trivial⟩
    | sta y v => simp only [okind, PNode.data, DNode.kind, JoinP.eq, PickP.eq, GuardP.yes, GuardP.undef, GuardP.no (show (true == false) = false from rfl), GuardP.no (show (false == true) = false from rfl), CondP.tt, CondP.ff, add_r, sub_r, mul_r, lss_r, leq_r, gtr_r, geq_r, eql_r, neq_r, eqs_r, nes_r, not_r, nil_r, Bool.not_true, Bool.not_false, if_true, if_false, Bool.false_eq_true, decide_true, decide_false, Nat.zero_add, Bool.and_true, Bool.true_and, show decide ((2 : Int) = 1) = false from rfl]; exact ⟨rfl, by first | rfl | trivial⟩
    | msg y v tvs => simp only [okind, PNode.data, DNode.kind, JoinP.eq, PickP.eq, GuardP.yes, GuardP.undef, GuardP.no (show (true == false) = false from rfl), GuardP.no (show (false == true) = false from rfl), CondP.tt, CondP.ff, add_r, sub_r, mul_r, lss_r, leq_r, gtr_r, geq_r, eql_r, neq_r, eqs_r, nes_r, not_r, nil_r, Bool.not_true, Bool.not_false, if_true, if_false, Bool.false_eq_true, decide_true, decide_false, Nat.zero_add, Bool.and_true, Bool.true_and, show decide ((3 : Int) = 1) = false from rfl, show decide ((3 : Int) = 2) = false from rfl]; exact ⟨rfl, by first | rfl | trivial⟩
    | tab y v => simp only [okind, PNode.data, DNode.kind, JoinP.eq, PickP.eq, GuardP.yes, GuardP.undef, GuardP.no (show (true == false) = false from rfl), GuardP.no (show (false == true) = false from rfl), CondP.tt, CondP.ff, add_r, sub_r, mul_r, lss_r, leq_r, gtr_r, geq_r, eql_r, neq_r, eqs_r, nes_r, not_r, nil_r, Bool.not_true, Bool.not_false, if_true, if_false, Bool.false_eq_true, decide_true, decide_false, Nat.zero_add, Bool.and_true, Bool.true_and, show decide ((4 : Int) = 1) = false from rfl, show decide ((4 : Int) = 2) = false from rfl, show decide ((4 : Int) = 3) = false from rfl]; exact ⟨rfl, by first | rfl | trivial⟩

/-! What parts make, one behind the other. -/
def gStep (x : DDb) : DNode → DDb
  | .ver v => { x with has := true, ver := v }
  | .sta s => { x with sta := s }
  | .msg y => { x with msgs := x.msgs ++ [y] }
  | .tab y => { x with tabs := x.tabs ++ [y] }
def zDb : DDb := ⟨false, ⟨0, 0, ByteArray.empty⟩, ⟨0, 0, []⟩, [], []⟩
def gDb (l : List DNode) : DDb := l.foldl gStep zDb
theorem gDb_snoc (l : List DNode) (n : DNode) : gDb (l ++ [n]) = gStep (gDb l) n := by simp [gDb]
/-- The parts told by the first k numbers, none among them left out. -/
def prts (sel : List (Option PNode)) (k : Nat) : List DNode := ((sel.take k).filterMap id).map PNode.data
theorem prts_some {sel : List (Option PNode)} {k : Nat} {n : PNode} (h : sel[k]? = some (some n)) : prts sel (k + 1) = prts sel k ++ [n.data] := by
  unfold prts
  rw [List.take_succ_eq_append_getElem (List.getElem?_eq_some_iff.1 h).1, (List.getElem?_eq_some_iff.1 h).2, List.filterMap_append]
  simp
theorem prts_none {sel : List (Option PNode)} {k : Nat} (h : sel[k]? = some none) : prts sel (k + 1) = prts sel k := by
  unfold prts
  rw [List.take_succ_eq_append_getElem (List.getElem?_eq_some_iff.1 h).1, (List.getElem?_eq_some_iff.1 h).2, List.filterMap_append]
  simp
end Go.Proofs.YtmgleeoecdodjaaDoor.Sh
