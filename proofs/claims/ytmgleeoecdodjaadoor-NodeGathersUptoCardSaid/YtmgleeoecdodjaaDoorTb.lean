/- What signals, messages, tables, stations and databases are in memory, and that two that are alike are said to be the same. Conditions: lengths up to 2^30. -/
import Derived.Test.YtmgleeoecdodjaaDoorTa
set_option linter.unusedVariables false
set_option linter.unusedSimpArgs false
set_option maxRecDepth 10000
namespace Go.V
open Go.RowKit
variable {P : Program}
theorem p_eqb {T : TypeId} {x y : Operand} {a b : Bool} (h : P.underlying T = some .bool) (he : P.eqGuardType P.depth T = false) : Pure P (binSem .eql T x y (.bool a) (.bool b)) (.bool (decide (a = b))) := fun w => by
  simp [binSem, eqGuard, binOp, Op.equal, Op.maxDepth, he, run_equalIn_bool' w _ T _ _ h, Sem.run_bind, Result.andThen, program, Sem.run, pure]
  cases a <;> cases b <;> rfl
theorem p_neb {T : TypeId} {x y : Operand} {a b : Bool} (h : P.underlying T = some .bool) (he : P.eqGuardType P.depth T = false) : Pure P (binSem .neq T x y (.bool a) (.bool b)) (.bool (!decide (a = b))) := fun w => by
  simp [binSem, eqGuard, binOp, Op.equal, Op.maxDepth, he, run_equalIn_bool' w _ T _ _ h, Sem.run_bind, Result.andThen, program, Sem.run, pure]
  cases a <;> cases b <;> rfl
end Go.V
namespace Go.Proofs.YtmgleeoecdodjaaDoor.Sh
open Go Go.V Go.RowKit

theorem egb : Tryd.prog.eqGuardType Tryd.prog.depth 4 = false := by kernel_rfl
theorem eqb_r {x y : Operand} {a b : Bool} {w : World} {K : Value → World → Prop} : Run Tryd.prog (binSem .eql 4 x y (.bool a) (.bool b)) w K = K (.bool (decide (a = b))) w := (p_eqb Tryd.underlying4 egb).run
theorem neb_r {x y : Operand} {a b : Bool} {w : World} {K : Value → World → Prop} : Run Tryd.prog (binSem .neq 4 x y (.bool a) (.bool b)) w K = K (.bool (!decide (a = b))) w := (p_neb Tryd.underlying4 egb).run
theorem neb_q {x y : Operand} {a b : Bool} {w : World} {K : Value → Prop} : RunQ Tryd.prog (binSem .neq 4 x y (.bool a) (.bool b)) w K = K (.bool (!decide (a = b))) := (p_neb Tryd.underlying4 egb).runQ
theorem eqb_q {x y : Operand} {a b : Bool} {w : World} {K : Value → Prop} : RunQ Tryd.prog (binSem .eql 4 x y (.bool a) (.bool b)) w K = K (.bool (decide (a = b))) := (p_eqb Tryd.underlying4 egb).runQ
structure DRow where
  value : Int
  text : ByteArray
structure DSig where
  line : Int
  col : Int
  name : ByteArray
  role : Int
  branch : Int
  start : Int
  size : Int
  moto : Bool
  sgn : Bool
  sn : Int
  sd : Int
  on : Int
  od : Int
  mn : Int
  md : Int
  xn : Int
  xd : Int
  unit : ByteArray
  to : List ByteArray
structure DMsg where
  line : Int
  col : Int
  id : Int
  wide : Bool
  name : ByteArray
  size : Int
  sender : ByteArray
  sigs : List DSig
structure DTab where
  line : Int
  col : Int
  id : Int
  wide : Bool
  sig : ByteArray
  rows : List DRow
structure DVer where
  line : Int
  col : Int
  text : ByteArray
structure DSta where
  line : Int
  col : Int
  names : List ByteArray
structure DDb where
  has : Bool
  ver : DVer
  sta : DSta
  msgs : List DMsg
  tabs : List DTab

def DRow.cells (x : DRow) : List Value := [.int .i64 x.value, .string x.text]
def DSig.pre (x : DSig) : List Value := [.int .i64 x.line, .int .i64 x.col, .string x.name, .int .i64 x.role, .int .u64 x.branch, .int .i64 x.start, .int .i64 x.size, .bool x.moto, .bool x.sgn, .int .i64 x.sn, .int .i64 x.sd, .int .i64 x.on, .int .i64 x.od, .int .i64 x.mn, .int .i64 x.md, .int .i64 x.xn, .int .i64 x.xd, .string x.unit]
def DMsg.pre (x : DMsg) : List Value := [.int .i64 x.line, .int .i64 x.col, .int .u32 x.id, .bool x.wide, .string x.name, .int .i64 x.size, .string x.sender]
def DTab.pre (x : DTab) : List Value := [.int .i64 x.line, .int .i64 x.col, .int .u32 x.id, .bool x.wide, .string x.sig]
def DVer.cells (x : DVer) : List Value := [.int .i64 x.line, .int .i64 x.col, .string x.text]
def DSta.pre (x : DSta) : List Value := [.int .i64 x.line, .int .i64 x.col]
abbrev DSig.agg (x : DSig) (v : Value) : Value := .agg (x.pre ++ [v]).toArray
abbrev DMsg.agg (x : DMsg) (v : Value) : Value := .agg (x.pre ++ [v]).toArray
abbrev DTab.agg (x : DTab) (v : Value) : Value := .agg (x.pre ++ [v]).toArray
abbrev DSta.agg (x : DSta) (v : Value) : Value := .agg (x.pre ++ [v]).toArray
abbrev DVer.agg (x : DVer) : Value := .agg x.cells.toArray
abbrev DDb.agg (x : DDb) (s m t : Value) : Value := .agg ([Value.bool x.has] ++ x.ver.cells ++ x.sta.pre ++ [s, m, t]).toArray

abbrev RRow (cs : List Value) (x : DRow) : Prop := cs = x.cells
abbrev Rows (m : Mem) (v : Value) (l : List DRow) : Prop := Sl m 2 RRow v l
structure RSig (m : Mem) (cs : List Value) (x : DSig) : Prop where
  h : ∃ v, cs = x.pre ++ [v] ∧ Texts m v x.to
abbrev Sigs (m : Mem) (v : Value) (l : List DSig) : Prop := Sl m 19 (RSig m) v l
structure RMsg (m : Mem) (cs : List Value) (x : DMsg) : Prop where
  h : ∃ v, cs = x.pre ++ [v] ∧ Sigs m v x.sigs
abbrev Msgs (m : Mem) (v : Value) (l : List DMsg) : Prop := Sl m 8 (RMsg m) v l
structure RTab (m : Mem) (cs : List Value) (x : DTab) : Prop where
  h : ∃ v, cs = x.pre ++ [v] ∧ Rows m v x.rows
abbrev Tabs (m : Mem) (v : Value) (l : List DTab) : Prop := Sl m 6 (RTab m) v l
structure OkMsg (x : DMsg) : Prop where
  sigs : x.sigs.length ≤ 1073741824
  to : ∀ s ∈ x.sigs, s.to.length ≤ 1073741824
structure OkDb (x : DDb) : Prop where
  names : x.sta.names.length ≤ 1073741824
  msgs : x.msgs.length ≤ 1073741824
  tabs : x.tabs.length ≤ 1073741824
  msg : ∀ s ∈ x.msgs, OkMsg s
  tab : ∀ s ∈ x.tabs, s.rows.length ≤ 1073741824
/-- A database in memory. -/
structure RDb (m : Mem) (v : Value) (x : DDb) : Prop where
  h : ∃ s ms ts, v = x.agg s ms ts ∧ Texts m s x.sta.names ∧ Msgs m ms x.msgs ∧ Tabs m ts x.tabs

theorem sameRows {m m' : Mem} {a b : Value} {xs : List DRow} {w : World} (hm : Sub m w) (hm' : Sub m' w) (ha : Rows m a xs) (hb : Rows m' b xs) (hn : xs.length ≤ 1073741824) :
    Does Tryd.prog 48 [a, b] w (Yes w) := by
  obtain ⟨p, c, rfl, hc⟩ := ha.form
  obtain ⟨p', c', rfl, hc'⟩ := hb.form
  refine D48 ?_
  unfold S48
  simp only [Pure.run (p_len sl79.slice), JoinP.eq, PickP.eq, GuardP.yes, GuardP.undef, GuardP.no (show (true == false) = false from rfl), GuardP.no (show (false == true) = false from rfl), CondP.tt, CondP.ff, add_r, sub_r, mul_r, lss_r, leq_r, gtr_r, geq_r, eql_r, neq_r, eqs_r, nes_r, not_r, nil_r, Bool.not_true, Bool.not_false, if_true, if_false, Bool.false_eq_true, decide_true, decide_false, Nat.zero_add, Bool.and_true, Bool.true_and]
  refine LoopP.of2 (fun r i w' => ∃ k : Nat, k ≤ xs.length ∧ i = .int .i64 k ∧ Ext w w') (fun _ i _ => xs.length - (intOf i).toNat) ⟨0, by omega, rfl, Ext.refl _⟩ ?_
  rintro r i w' ⟨k, hk, rfl, hext⟩
  simp only [Pure.run (p_len sl79.slice), lss_r]
  refine CondP.dec (fun h => ?_) (fun h => ?_)
  · have hk' : k < xs.length := by omega
    obtain ⟨s, hs⟩ : ∃ s, xs[k]? = some s := ⟨xs[k], by simp [hk']⟩
    obtain ⟨bl, ol, cs, rfl, _, _, _, hat, rfl⟩ := ha.get hs
    obtain ⟨bl', ol', cs, rfl, _, _, _, hat', rfl⟩ := hb.get hs
    try simp only [JoinP.eq]
    intro w1 he1
    have hext1 := hext.trans he1
    rw [Pure.runQ (p_idx (e := 133) (sz := 2) sl79.slice size133 (by omega) (by omega))]
    refine q_loadN agg133 rfl (hat w1 (hm.ext hext1)) ?_
    rw [Pure.runQ (p_idx (e := 133) (sz := 2) sl79.slice size133 (by omega) (by omega))]
    refine q_loadN agg133 rfl (hat' w1 (hm'.ext hext1)) ?_
    rw [show (DRow.cells s).toArray = #[.int .i64 s.value, .string s.text] from rfl]
    simp only [decide_true, Pure.runQ nes133, PickQ.eq, GuardQ.yes, GuardQ.undef, GuardQ.no (show (true == false) = false from rfl), GuardQ.no (show (false == true) = false from rfl), eql_q, neq_q, lss_q, add_q, sub_q, eqs_q, nes_q, not_q, JoinP.eq, PickP.eq, GuardP.yes, GuardP.undef, GuardP.no (show (true == false) = false from rfl), GuardP.no (show (false == true) = false from rfl), CondP.tt, CondP.ff, add_r, sub_r, mul_r, lss_r, leq_r, gtr_r, geq_r, eql_r, neq_r, eqs_r, nes_r, not_r, nil_r, Bool.not_true, Bool.not_false, if_true, if_false, Bool.false_eq_true, decide_true, decide_false, Nat.zero_add, Bool.and_true, Bool.true_and]
    refine ⟨⟨k + 1, by omega, succ64 (by omega), hext1⟩, ?_⟩
    rw [succ64 (by omega)]; simp [intOf]; omega
  · exact ⟨rfl, hext⟩
theorem sameSignal {m m' : Mem} {a b : Value} {x : DSig} {w : World} (hm : Sub m w) (hm' : Sub m' w) (ha : Texts m a x.to) (hb : Texts m' b x.to) (hn : x.to.length ≤ 1073741824) :
    Does Tryd.prog 67 [x.agg a, x.agg b] w (Yes w) := by
  refine D67 ?_
  unfold S67
  refine r_box fun w1 e1 z1 b1 => ?_
  refine r_box fun w2 e2 z2 b2 => ?_
  have b1 := b1.ext e2
  simp only [Value.cells, DSig.pre, List.cons_append, List.nil_append] at b1 b2
  simp only [Pure.run (p_field (o := 0) fld130_0), Pure.run (p_field (o := 0) fld130_1), Pure.run (p_field (o := 0) fld130_2), Pure.run (p_field (o := 0) fld130_3), Pure.run (p_field (o := 0) fld130_4), Pure.run (p_field (o := 0) fld130_5), Pure.run (p_field (o := 0) fld130_6), Pure.run (p_field (o := 0) fld130_7), Pure.run (p_field (o := 0) fld130_8), Pure.run (p_field (o := 0) fld130_9), Pure.run (p_field (o := 0) fld130_10), Pure.run (p_field (o := 0) fld130_11), Pure.run (p_field (o := 0) fld130_12), Pure.run (p_field (o := 0) fld130_13), ldN b1 agg23 (o := 0) rfl, ld1 b1 one9 (o := 2) rfl, ld1 b1 one3 (o := 3) rfl, ld1 b1 one126 (o := 4) rfl, ld1 b1 one3 (o := 5) rfl, ld1 b1 one3 (o := 6) rfl, ld1 b1 one4 (o := 7) rfl, ld1 b1 one4 (o := 8) rfl, ldN b1 agg128 (o := 9) rfl, ldN b1 agg128 (o := 11) rfl, ldN b1 agg128 (o := 13) rfl, ldN b1 agg128 (o := 15) rfl, ld1 b1 one9 (o := 17) rfl, ld1 b1 one26 (o := 18) rfl, ldN b2 agg23 (o := 0) rfl, ld1 b2 one9 (o := 2) rfl, ld1 b2 one3 (o := 3) rfl, ld1 b2 one126 (o := 4) rfl, ld1 b2 one3 (o := 5) rfl, ld1 b2 one3 (o := 6) rfl, ld1 b2 one4 (o := 7) rfl, ld1 b2 one4 (o := 8) rfl, ldN b2 agg128 (o := 9) rfl, ldN b2 agg128 (o := 11) rfl, ldN b2 agg128 (o := 13) rfl, ldN b2 agg128 (o := 15) rfl, ld1 b2 one9 (o := 17) rfl, ld1 b2 one26 (o := 18) rfl, Pure.run eqs23, Pure.run eqs128, eqb_r, List.drop_zero, List.drop_succ_cons, List.take_succ_cons, List.take_zero, JoinP.eq, PickP.eq, GuardP.yes, GuardP.undef, GuardP.no (show (true == false) = false from rfl), GuardP.no (show (false == true) = false from rfl), CondP.tt, CondP.ff, add_r, sub_r, mul_r, lss_r, leq_r, gtr_r, geq_r, eql_r, neq_r, eqs_r, nes_r, not_r, nil_r, Bool.not_true, Bool.not_false, if_true, if_false, Bool.false_eq_true, decide_true, decide_false, Nat.zero_add, Bool.and_true, Bool.true_and]
  refine GoN.does pl46 (sameTexts (hm.ext (e1.trans e2)) (hm'.ext (e1.trans e2)) ha hb hn) ?_
  rintro v w' ⟨rfl, he⟩
  exact ⟨rfl, (e1.trans e2).trans he⟩
theorem Sig.len (x : DSig) (v : Value) : (x.pre ++ [v]).length = 19 := rfl
theorem sameSignals {m m' : Mem} {a b : Value} {xs : List DSig} {w : World} (hm : Sub m w) (hm' : Sub m' w) (ha : Sigs m a xs) (hb : Sigs m' b xs) (hn : xs.length ≤ 1073741824) (hto : ∀ s ∈ xs, s.to.length ≤ 1073741824) :
    Does Tryd.prog 47 [a, b] w (Yes w) := by
  obtain ⟨p, c, rfl, hc⟩ := ha.form
  obtain ⟨p', c', rfl, hc'⟩ := hb.form
  refine D47 ?_
  unfold S47
  simp only [Pure.run (p_len sl75.slice), JoinP.eq, PickP.eq, GuardP.yes, GuardP.undef, GuardP.no (show (true == false) = false from rfl), GuardP.no (show (false == true) = false from rfl), CondP.tt, CondP.ff, add_r, sub_r, mul_r, lss_r, leq_r, gtr_r, geq_r, eql_r, neq_r, eqs_r, nes_r, not_r, nil_r, Bool.not_true, Bool.not_false, if_true, if_false, Bool.false_eq_true, decide_true, decide_false, Nat.zero_add, Bool.and_true, Bool.true_and]
  refine LoopP.of2 (fun r i w' => ∃ k : Nat, k ≤ xs.length ∧ i = .int .i64 k ∧ Ext w w') (fun _ i _ => xs.length - (intOf i).toNat) ⟨0, by omega, rfl, Ext.refl _⟩ ?_
  rintro r i w' ⟨k, hk, rfl, hext⟩
  simp only [Pure.run (p_len sl75.slice), lss_r]
  refine CondP.dec (fun h => ?_) (fun h => ?_)
  · have hk' : k < xs.length := by omega
    obtain ⟨s, hs⟩ : ∃ s, xs[k]? = some s := ⟨xs[k], by simp [hk']⟩
    have hmem := List.mem_of_getElem? hs
    obtain ⟨bl, ol, cs, rfl, _, _, _, hat, ⟨v1, rfl, ht1⟩⟩ := ha.get hs
    obtain ⟨bl', ol', cs, rfl, _, _, _, hat', ⟨v2, rfl, ht2⟩⟩ := hb.get hs
    try simp only [JoinP.eq]
    intro w1 he1
    have hext1 := hext.trans he1
    rw [Pure.runQ (p_idx (e := 130) (sz := 19) sl75.slice size130 (by omega) (by omega))]
    refine q_loadN agg130 rfl (hat w1 (hm.ext hext1)) ?_
    rw [Pure.runQ (p_idx (e := 130) (sz := 19) sl75.slice size130 (by omega) (by omega))]
    refine q_loadN agg130 rfl (hat' w1 (hm'.ext hext1)) ?_
    refine GoN.does pl67 (sameSignal (hm.ext hext1) (hm'.ext hext1) ht1 ht2 (hto s hmem)) ?_
    rintro v w2 ⟨rfl, he2⟩
    refine ⟨he2, ?_⟩
    simp only [PickQ.eq, GuardQ.yes, GuardQ.undef, GuardQ.no (show (true == false) = false from rfl), GuardQ.no (show (false == true) = false from rfl), eql_q, neq_q, lss_q, add_q, sub_q, eqs_q, nes_q, not_q, JoinP.eq, PickP.eq, GuardP.yes, GuardP.undef, GuardP.no (show (true == false) = false from rfl), GuardP.no (show (false == true) = false from rfl), CondP.tt, CondP.ff, add_r, sub_r, mul_r, lss_r, leq_r, gtr_r, geq_r, eql_r, neq_r, eqs_r, nes_r, not_r, nil_r, Bool.not_true, Bool.not_false, if_true, if_false, Bool.false_eq_true, decide_true, decide_false, Nat.zero_add, Bool.and_true, Bool.true_and]
    refine ⟨⟨k + 1, by omega, succ64 (by omega), hext1.trans he2⟩, ?_⟩
    rw [succ64 (by omega)]; simp [intOf]; omega
  · exact ⟨rfl, hext⟩
theorem sameMessage {m m' : Mem} {a b : Value} {x : DMsg} {w : World} (hm : Sub m w) (hm' : Sub m' w) (ha : Sigs m a x.sigs) (hb : Sigs m' b x.sigs) (hx : OkMsg x) :
    Does Tryd.prog 17 [x.agg a, x.agg b] w (Yes w) := by
  refine D17 ?_
  unfold S17
  refine r_box fun w1 e1 z1 b1 => ?_
  refine r_box fun w2 e2 z2 b2 => ?_
  have b1 := b1.ext e2
  simp only [Value.cells, DMsg.pre, List.cons_append, List.nil_append] at b1 b2
  simp only [Pure.run (p_field (o := 0) fld77_0), Pure.run (p_field (o := 0) fld77_1), Pure.run (p_field (o := 0) fld77_2), Pure.run (p_field (o := 0) fld77_3), Pure.run (p_field (o := 0) fld77_4), Pure.run (p_field (o := 0) fld77_5), Pure.run (p_field (o := 0) fld77_6), ldN b1 agg23 (o := 0) rfl, ld1 b1 one74 (o := 2) rfl, ld1 b1 one4 (o := 3) rfl, ld1 b1 one9 (o := 4) rfl, ld1 b1 one3 (o := 5) rfl, ld1 b1 one9 (o := 6) rfl, ld1 b1 one75 (o := 7) rfl, ldN b2 agg23 (o := 0) rfl, ld1 b2 one74 (o := 2) rfl, ld1 b2 one4 (o := 3) rfl, ld1 b2 one9 (o := 4) rfl, ld1 b2 one3 (o := 5) rfl, ld1 b2 one9 (o := 6) rfl, ld1 b2 one75 (o := 7) rfl, Pure.run eqs23, eqb_r, List.drop_zero, List.drop_succ_cons, List.take_succ_cons, List.take_zero, JoinP.eq, PickP.eq, GuardP.yes, GuardP.undef, GuardP.no (show (true == false) = false from rfl), GuardP.no (show (false == true) = false from rfl), CondP.tt, CondP.ff, add_r, sub_r, mul_r, lss_r, leq_r, gtr_r, geq_r, eql_r, neq_r, eqs_r, nes_r, not_r, nil_r, Bool.not_true, Bool.not_false, if_true, if_false, Bool.false_eq_true, decide_true, decide_false, Nat.zero_add, Bool.and_true, Bool.true_and]
  refine GoN.does pl47 (sameSignals (hm.ext (e1.trans e2)) (hm'.ext (e1.trans e2)) ha hb hx.sigs hx.to) ?_
  rintro v w' ⟨rfl, he⟩
  exact ⟨rfl, (e1.trans e2).trans he⟩
theorem sameTable {m m' : Mem} {a b : Value} {x : DTab} {w : World} (hm : Sub m w) (hm' : Sub m' w) (ha : Rows m a x.rows) (hb : Rows m' b x.rows) (hn : x.rows.length ≤ 1073741824) :
    Does Tryd.prog 18 [x.agg a, x.agg b] w (Yes w) := by
  refine D18 ?_
  unfold S18
  refine r_box fun w1 e1 z1 b1 => ?_
  refine r_box fun w2 e2 z2 b2 => ?_
  have b1 := b1.ext e2
  simp only [Value.cells, DTab.pre, List.cons_append, List.nil_append] at b1 b2
  simp only [Pure.run (p_field (o := 0) fld81_0), Pure.run (p_field (o := 0) fld81_1), Pure.run (p_field (o := 0) fld81_2), Pure.run (p_field (o := 0) fld81_3), Pure.run (p_field (o := 0) fld81_4), ldN b1 agg23 (o := 0) rfl, ld1 b1 one74 (o := 2) rfl, ld1 b1 one4 (o := 3) rfl, ld1 b1 one9 (o := 4) rfl, ld1 b1 one79 (o := 5) rfl, ldN b2 agg23 (o := 0) rfl, ld1 b2 one74 (o := 2) rfl, ld1 b2 one4 (o := 3) rfl, ld1 b2 one9 (o := 4) rfl, ld1 b2 one79 (o := 5) rfl, Pure.run eqs23, eqb_r, List.drop_zero, List.drop_succ_cons, List.take_succ_cons, List.take_zero, JoinP.eq, PickP.eq, GuardP.yes, GuardP.undef, GuardP.no (show (true == false) = false from rfl), GuardP.no (show (false == true) = false from rfl), CondP.tt, CondP.ff, add_r, sub_r, mul_r, lss_r, leq_r, gtr_r, geq_r, eql_r, neq_r, eqs_r, nes_r, not_r, nil_r, Bool.not_true, Bool.not_false, if_true, if_false, Bool.false_eq_true, decide_true, decide_false, Nat.zero_add, Bool.and_true, Bool.true_and]
  refine GoN.does pl48 (sameRows (hm.ext (e1.trans e2)) (hm'.ext (e1.trans e2)) ha hb hn) ?_
  rintro v w' ⟨rfl, he⟩
  exact ⟨rfl, (e1.trans e2).trans he⟩
theorem sameStations {m m' : Mem} {a b : Value} {x : DSta} {w : World} (hm : Sub m w) (hm' : Sub m' w) (ha : Texts m a x.names) (hb : Texts m' b x.names) (hn : x.names.length ≤ 1073741824) :
    Does Tryd.prog 16 [x.agg a, x.agg b] w (Yes w) := by
  refine D16 ?_
  unfold S16
  refine r_box fun w1 e1 z1 b1 => ?_
  refine r_box fun w2 e2 z2 b2 => ?_
  have b1 := b1.ext e2
  simp only [Value.cells, DSta.pre, List.cons_append, List.nil_append] at b1 b2
  simp only [Pure.run (p_field (o := 0) fld28_0), Pure.run (p_field (o := 0) fld28_1), ldN b1 agg23 (o := 0) rfl, ld1 b1 one26 (o := 2) rfl, ldN b2 agg23 (o := 0) rfl, ld1 b2 one26 (o := 2) rfl, Pure.run eqs23, eqb_r, List.drop_zero, List.drop_succ_cons, List.take_succ_cons, List.take_zero, JoinP.eq, PickP.eq, GuardP.yes, GuardP.undef, GuardP.no (show (true == false) = false from rfl), GuardP.no (show (false == true) = false from rfl), CondP.tt, CondP.ff, add_r, sub_r, mul_r, lss_r, leq_r, gtr_r, geq_r, eql_r, neq_r, eqs_r, nes_r, not_r, nil_r, Bool.not_true, Bool.not_false, if_true, if_false, Bool.false_eq_true, decide_true, decide_false, Nat.zero_add, Bool.and_true, Bool.true_and]
  refine GoN.does pl46 (sameTexts (hm.ext (e1.trans e2)) (hm'.ext (e1.trans e2)) ha hb hn) ?_
  rintro v w' ⟨rfl, he⟩
  exact ⟨rfl, (e1.trans e2).trans he⟩
end Go.Proofs.YtmgleeoecdodjaaDoor.Sh
