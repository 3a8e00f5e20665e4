/- That what was lent of a database is found as it was. Conditions: lengths up to 2^30. -/
import Derived.Test.YtmgleeoecdodjaaTu
import Derived.Test.YtmgleeoecdodjaaV14
set_option linter.unusedVariables false
set_option linter.unusedSimpArgs false
set_option maxRecDepth 10000
namespace Go.Proofs.Ytmgleeoecdodjaa.Sh
open Go Go.V Go.RowKit

theorem keptSignal {m m' : Mem} {a b : Value} {x : DSig} {w : World} (hm' : Sub m' w) (hm : Sub m w) (ha : LTexts m' a x.to) (hb : Texts m b x.to) (hn : x.to.length ≤ 1073741824) :
    Does Try.prog 82 [x.agg a, x.agg b] w (Yes w) := by
  refine D82 ?_
  unfold S82
  refine r_box fun w1 e1 z1 b1 => ?_
  refine r_box fun w2 e2 z2 b2 => ?_
  have b1 := b1.ext e2
  simp only [Value.cells, DSig.pre, List.cons_append, List.nil_append] at b1 b2
  simp only [Pure.run (p_field (o := 0) fld119_0), Pure.run (p_field (o := 0) fld119_1), Pure.run (p_field (o := 0) fld119_2), Pure.run (p_field (o := 0) fld119_3), Pure.run (p_field (o := 0) fld119_4), Pure.run (p_field (o := 0) fld119_5), Pure.run (p_field (o := 0) fld119_6), Pure.run (p_field (o := 0) fld119_7), Pure.run (p_field (o := 0) fld119_8), Pure.run (p_field (o := 0) fld119_9), Pure.run (p_field (o := 0) fld119_10), Pure.run (p_field (o := 0) fld119_11), Pure.run (p_field (o := 0) fld119_12), Pure.run (p_field (o := 0) fld119_13), ldN b1 agg23 (o := 0) rfl, ld1 b1 one9 (o := 2) rfl, ld1 b1 one3 (o := 3) rfl, ld1 b1 one115 (o := 4) rfl, ld1 b1 one3 (o := 5) rfl, ld1 b1 one3 (o := 6) rfl, ld1 b1 one4 (o := 7) rfl, ld1 b1 one4 (o := 8) rfl, ldN b1 agg117 (o := 9) rfl, ldN b1 agg117 (o := 11) rfl, ldN b1 agg117 (o := 13) rfl, ldN b1 agg117 (o := 15) rfl, ld1 b1 one9 (o := 17) rfl, ld1 b1 one26 (o := 18) rfl, ldN b2 agg23 (o := 0) rfl, ld1 b2 one9 (o := 2) rfl, ld1 b2 one3 (o := 3) rfl, ld1 b2 one115 (o := 4) rfl, ld1 b2 one3 (o := 5) rfl, ld1 b2 one3 (o := 6) rfl, ld1 b2 one4 (o := 7) rfl, ld1 b2 one4 (o := 8) rfl, ldN b2 agg117 (o := 9) rfl, ldN b2 agg117 (o := 11) rfl, ldN b2 agg117 (o := 13) rfl, ldN b2 agg117 (o := 15) rfl, ld1 b2 one9 (o := 17) rfl, ld1 b2 one26 (o := 18) rfl, Pure.run eqs23, Pure.run eqs117, eqb_r, List.drop_zero, List.drop_succ_cons, List.take_succ_cons, List.take_zero, JoinP.eq, PickP.eq, GuardP.yes, GuardP.undef, GuardP.no (show (true == false) = false from rfl), GuardP.no (show (false == true) = false from rfl), CondP.tt, CondP.ff, add_r, sub_r, mul_r, lss_r, leq_r, gtr_r, geq_r, eql_r, neq_r, eqs_r, nes_r, not_r, nil_r, Bool.not_true, Bool.not_false, if_true, if_false, Bool.false_eq_true, decide_true, decide_false, Nat.zero_add, Bool.and_true, Bool.true_and]
  refine GoN.does pl59 (keptTexts (hm.ext (e1.trans e2)) (hm'.ext (e1.trans e2)) hb hn ha) ?_
  rintro v w' ⟨rfl, he⟩
  exact ⟨rfl, (e1.trans e2).trans he⟩
theorem keptSignals {m m' : Mem} {a b : Value} {xs : List DSig} {w : World} (hm' : Sub m' w) (hm : Sub m w) (ha : LSigs m' a xs) (hb : Sigs m b xs) (hn : xs.length ≤ 1073741824) (hto : ∀ s ∈ xs, s.to.length ≤ 1073741824) :
    Does Try.prog 77 [a, b] w (Yes w) := by
  obtain ⟨g, c, rfl, hc, _, _⟩ := ha.h
  obtain ⟨p, cl, hbv, hcl⟩ := hb.form
  have hl2 : ∀ K : Value → World → Prop, Run Try.prog (Builtin.len_ #[60] 3 #[b]) w K = K (.int .i64 (xs.length : Nat)) w := fun K => by
    rw [hbv, Pure.run (p_len sl60.slice)]
  refine D77 ?_
  unfold S77
  simp only [hl2, Pure.run (p_len sl60.slice), JoinP.eq, PickP.eq, GuardP.yes, GuardP.undef, GuardP.no (show (true == false) = false from rfl), GuardP.no (show (false == true) = false from rfl), CondP.tt, CondP.ff, add_r, sub_r, mul_r, lss_r, leq_r, gtr_r, geq_r, eql_r, neq_r, eqs_r, nes_r, not_r, nil_r, Bool.not_true, Bool.not_false, if_true, if_false, Bool.false_eq_true, decide_true, decide_false, Nat.zero_add, Bool.and_true, Bool.true_and]
  rw [wrap64_id (by omega) (by omega), Pure.run (p_upto sl60.slice size119 (by omega) (by omega)), show ((xs.length : Int) + 16).toNat = xs.length + 16 by omega]
  refine r_kept sl60 agg119 pl82 fld119_4 one3 (mkv := .int .i64 (-7)) rfl (by have := p_eql (P := Try.prog) (T := 3) (x := .tmp 45) (y := .const (.int .i64 (-7))) (k := .i64) (a := -7) (b := -7); simpa using this) ha hb hm hm' hn fun w1 x cs cs' e hx h1 h2 => ?_
  obtain ⟨u, rfl, hu⟩ := h1.h
  obtain ⟨u', rfl, hu'⟩ := h2.h
  exact keptSignal (hm'.ext e) (hm.ext e) hu hu' (hto x hx)
theorem keptMessage {m m' : Mem} {a b : Value} {x : DMsg} {w : World} (hm' : Sub m' w) (hm : Sub m w) (ha : LSigs m' a x.sigs) (hb : Sigs m b x.sigs) (hx : OkMsg x) :
    Does Try.prog 57 [x.agg a, x.agg b] w (Yes w) := by
  refine D57 ?_
  unfold S57
  refine r_box fun w1 e1 z1 b1 => ?_
  refine r_box fun w2 e2 z2 b2 => ?_
  have b1 := b1.ext e2
  simp only [Value.cells, DMsg.pre, List.cons_append, List.nil_append] at b1 b2
  simp only [Pure.run (p_field (o := 0) fld62_0), Pure.run (p_field (o := 0) fld62_1), Pure.run (p_field (o := 0) fld62_2), Pure.run (p_field (o := 0) fld62_3), Pure.run (p_field (o := 0) fld62_4), Pure.run (p_field (o := 0) fld62_5), Pure.run (p_field (o := 0) fld62_6), ldN b1 agg23 (o := 0) rfl, ld1 b1 one59 (o := 2) rfl, ld1 b1 one4 (o := 3) rfl, ld1 b1 one9 (o := 4) rfl, ld1 b1 one3 (o := 5) rfl, ld1 b1 one9 (o := 6) rfl, ld1 b1 one60 (o := 7) rfl, ldN b2 agg23 (o := 0) rfl, ld1 b2 one59 (o := 2) rfl, ld1 b2 one4 (o := 3) rfl, ld1 b2 one9 (o := 4) rfl, ld1 b2 one3 (o := 5) rfl, ld1 b2 one9 (o := 6) rfl, ld1 b2 one60 (o := 7) rfl, Pure.run eqs23, eqb_r, List.drop_zero, List.drop_succ_cons, List.take_succ_cons, List.take_zero, JoinP.eq, PickP.eq, GuardP.yes, GuardP.undef, GuardP.no (show (true == false) = false from rfl), GuardP.no (show (false == true) = false from rfl), CondP.tt, CondP.ff, add_r, sub_r, mul_r, lss_r, leq_r, gtr_r, geq_r, eql_r, neq_r, eqs_r, nes_r, not_r, nil_r, Bool.not_true, Bool.not_false, if_true, if_false, Bool.false_eq_true, decide_true, decide_false, Nat.zero_add, Bool.and_true, Bool.true_and]
  refine GoN.does pl77 (keptSignals (hm'.ext (e1.trans e2)) (hm.ext (e1.trans e2)) ha hb hx.sigs hx.to) ?_
  rintro v w' ⟨rfl, he⟩
  exact ⟨rfl, (e1.trans e2).trans he⟩
theorem keptMessages {m m' : Mem} {a b : Value} {xs : List DMsg} {w : World} (hm' : Sub m' w) (hm : Sub m w) (ha : LMsgs m' a xs) (hb : Msgs m b xs) (hn : xs.length ≤ 1073741824) (hok : ∀ s ∈ xs, OkMsg s) :
    Does Try.prog 26 [a, b] w (Yes w) := by
  obtain ⟨g, c, rfl, hc, _, _⟩ := ha.h
  obtain ⟨p, cl, hbv, hcl⟩ := hb.form
  have hl2 : ∀ K : Value → World → Prop, Run Try.prog (Builtin.len_ #[29] 3 #[b]) w K = K (.int .i64 (xs.length : Nat)) w := fun K => by
    rw [hbv, Pure.run (p_len sl29.slice)]
  refine D26 ?_
  unfold S26
  simp only [hl2, Pure.run (p_len sl29.slice), JoinP.eq, PickP.eq, GuardP.yes, GuardP.undef, GuardP.no (show (true == false) = false from rfl), GuardP.no (show (false == true) = false from rfl), CondP.tt, CondP.ff, add_r, sub_r, mul_r, lss_r, leq_r, gtr_r, geq_r, eql_r, neq_r, eqs_r, nes_r, not_r, nil_r, Bool.not_true, Bool.not_false, if_true, if_false, Bool.false_eq_true, decide_true, decide_false, Nat.zero_add, Bool.and_true, Bool.true_and]
  rw [wrap64_id (by omega) (by omega), Pure.run (p_upto sl29.slice size62 (by omega) (by omega)), show ((xs.length : Int) + 16).toNat = xs.length + 16 by omega]
  refine r_kept sl29 agg62 pl57 fld62_4 one3 (mkv := .int .i64 (-7)) rfl (by have := p_eql (P := Try.prog) (T := 3) (x := .tmp 45) (y := .const (.int .i64 (-7))) (k := .i64) (a := -7) (b := -7); simpa using this) ha hb hm hm' hn fun w1 x cs cs' e hx h1 h2 => ?_
  obtain ⟨u, rfl, hu⟩ := h1.h
  obtain ⟨u', rfl, hu'⟩ := h2.h
  exact keptMessage (hm'.ext e) (hm.ext e) hu hu' (hok x hx)
theorem keptTable {m m' : Mem} {a b : Value} {x : DTab} {w : World} (hm' : Sub m' w) (hm : Sub m w) (ha : LRows m' a x.rows) (hb : Rows m b x.rows) (hn : x.rows.length ≤ 1073741824) :
    Does Try.prog 58 [x.agg a, x.agg b] w (Yes w) := by
  refine D58 ?_
  unfold S58
  refine r_box fun w1 e1 z1 b1 => ?_
  refine r_box fun w2 e2 z2 b2 => ?_
  have b1 := b1.ext e2
  simp only [Value.cells, DTab.pre, List.cons_append, List.nil_append] at b1 b2
  simp only [Pure.run (p_field (o := 0) fld79_0), Pure.run (p_field (o := 0) fld79_1), Pure.run (p_field (o := 0) fld79_2), Pure.run (p_field (o := 0) fld79_3), Pure.run (p_field (o := 0) fld79_4), ldN b1 agg23 (o := 0) rfl, ld1 b1 one59 (o := 2) rfl, ld1 b1 one4 (o := 3) rfl, ld1 b1 one9 (o := 4) rfl, ld1 b1 one77 (o := 5) rfl, ldN b2 agg23 (o := 0) rfl, ld1 b2 one59 (o := 2) rfl, ld1 b2 one4 (o := 3) rfl, ld1 b2 one9 (o := 4) rfl, ld1 b2 one77 (o := 5) rfl, Pure.run eqs23, eqb_r, List.drop_zero, List.drop_succ_cons, List.take_succ_cons, List.take_zero, JoinP.eq, PickP.eq, GuardP.yes, GuardP.undef, GuardP.no (show (true == false) = false from rfl), GuardP.no (show (false == true) = false from rfl), CondP.tt, CondP.ff, add_r, sub_r, mul_r, lss_r, leq_r, gtr_r, geq_r, eql_r, neq_r, eqs_r, nes_r, not_r, nil_r, Bool.not_true, Bool.not_false, if_true, if_false, Bool.false_eq_true, decide_true, decide_false, Nat.zero_add, Bool.and_true, Bool.true_and]
  refine GoN.does pl78 (keptRows (hm.ext (e1.trans e2)) (hm'.ext (e1.trans e2)) hb hn ha) ?_
  rintro v w' ⟨rfl, he⟩
  exact ⟨rfl, (e1.trans e2).trans he⟩
theorem keptTables {m m' : Mem} {a b : Value} {xs : List DTab} {w : World} (hm' : Sub m' w) (hm : Sub m w) (ha : LTabs m' a xs) (hb : Tabs m b xs) (hn : xs.length ≤ 1073741824) (hok : ∀ s ∈ xs, s.rows.length ≤ 1073741824) :
    Does Try.prog 27 [a, b] w (Yes w) := by
  obtain ⟨g, c, rfl, hc, _, _⟩ := ha.h
  obtain ⟨p, cl, hbv, hcl⟩ := hb.form
  have hl2 : ∀ K : Value → World → Prop, Run Try.prog (Builtin.len_ #[30] 3 #[b]) w K = K (.int .i64 (xs.length : Nat)) w := fun K => by
    rw [hbv, Pure.run (p_len sl30.slice)]
  refine D27 ?_
  unfold S27
  simp only [hl2, Pure.run (p_len sl30.slice), JoinP.eq, PickP.eq, GuardP.yes, GuardP.undef, GuardP.no (show (true == false) = false from rfl), GuardP.no (show (false == true) = false from rfl), CondP.tt, CondP.ff, add_r, sub_r, mul_r, lss_r, leq_r, gtr_r, geq_r, eql_r, neq_r, eqs_r, nes_r, not_r, nil_r, Bool.not_true, Bool.not_false, if_true, if_false, Bool.false_eq_true, decide_true, decide_false, Nat.zero_add, Bool.and_true, Bool.true_and]
  rw [wrap64_id (by omega) (by omega), Pure.run (p_upto sl30.slice size79 (by omega) (by omega)), show ((xs.length : Int) + 16).toNat = xs.length + 16 by omega]
  refine r_kept sl30 agg79 pl58 fld79_3 one9 (mkv := .string spareT) rfl (by have := p_eqs (P := Try.prog) (T := 9) (x := .tmp 45) (y := .const (.string spareT)) (a := spareT) (b := spareT); simpa [spareT] using this) ha hb hm hm' hn fun w1 x cs cs' e hx h1 h2 => ?_
  obtain ⟨u, rfl, hu⟩ := h1.h
  obtain ⟨u', rfl, hu'⟩ := h2.h
  exact keptTable (hm'.ext e) (hm.ext e) hu hu' (hok x hx)
theorem keptStations {m m' : Mem} {a b : Value} {x : DSta} {w : World} (hm' : Sub m' w) (hm : Sub m w) (ha : LTexts m' a x.names) (hb : Texts m b x.names) (hn : x.names.length ≤ 1073741824) :
    Does Try.prog 28 [x.agg a, x.agg b] w (Yes w) := by
  refine D28 ?_
  unfold S28
  refine r_box fun w1 e1 z1 b1 => ?_
  refine r_box fun w2 e2 z2 b2 => ?_
  have b1 := b1.ext e2
  simp only [Value.cells, DSta.pre, List.cons_append, List.nil_append] at b1 b2
  simp only [Pure.run (p_field (o := 0) fld28_0), Pure.run (p_field (o := 0) fld28_1), ldN b1 agg23 (o := 0) rfl, ld1 b1 one26 (o := 2) rfl, ldN b2 agg23 (o := 0) rfl, ld1 b2 one26 (o := 2) rfl, Pure.run eqs23, eqb_r, List.drop_zero, List.drop_succ_cons, List.take_succ_cons, List.take_zero, JoinP.eq, PickP.eq, GuardP.yes, GuardP.undef, GuardP.no (show (true == false) = false from rfl), GuardP.no (show (false == true) = false from rfl), CondP.tt, CondP.ff, add_r, sub_r, mul_r, lss_r, leq_r, gtr_r, geq_r, eql_r, neq_r, eqs_r, nes_r, not_r, nil_r, Bool.not_true, Bool.not_false, if_true, if_false, Bool.false_eq_true, decide_true, decide_false, Nat.zero_add, Bool.and_true, Bool.true_and]
  refine GoN.does pl59 (keptTexts (hm.ext (e1.trans e2)) (hm'.ext (e1.trans e2)) hb hn ha) ?_
  rintro v w' ⟨rfl, he⟩
  exact ⟨rfl, (e1.trans e2).trans he⟩
theorem keptDatabase {m m' : Mem} {a b : Value} {x : DDb} {w : World} (hm' : Sub m' w) (hm : Sub m w) (ha : LDb m' a x) (hb : RDb m b x) (hx : OkDb x) :
    Does Try.prog 8 [a, b] w (Yes w) := by
  obtain ⟨s1, ms1, ts1, rfl, hs1, hm1, ht1⟩ := ha.h
  obtain ⟨s2, ms2, ts2, rfl, hs2, hm2, ht2⟩ := hb.h
  refine D8 ?_
  unfold S8
  refine r_box fun w1 e1 z1 b1 => ?_
  refine r_box fun w2 e2 z2 b2 => ?_
  have b1 : Blk w2 w.heap.size (x.cells s1 ms1 ts1) 32 := b1.ext e2
  have b2 : Blk w2 w1.heap.size (x.cells s2 ms2 ts2) 32 := b2
  have e02 := e1.trans e2
  simp only [DDb.cells] at b1 b2
  simp only [Pure.run (p_field (o := 0) fld32_0), Pure.run (p_field (o := 0) fld32_1), Pure.run (p_field (o := 0) fld32_2), Pure.run (p_field (o := 0) fld32_3), Pure.run (p_field (o := 0) fld32_4), ld1 b1 one4 (o := 0) rfl, ldN b1 agg25 (o := 1) rfl, ldN b1 agg28 (o := 4) rfl, ld1 b1 one29 (o := 7) rfl, ld1 b1 one30 (o := 8) rfl, ld1 b2 one4 (o := 0) rfl, ldN b2 agg25 (o := 1) rfl, ldN b2 agg28 (o := 4) rfl, ld1 b2 one29 (o := 7) rfl, ld1 b2 one30 (o := 8) rfl, Pure.run eqs25, eqb_r, List.drop_zero, List.drop_succ_cons, List.take_succ_cons, List.take_zero, JoinP.eq, PickP.eq, GuardP.yes, GuardP.undef, GuardP.no (show (true == false) = false from rfl), GuardP.no (show (false == true) = false from rfl), CondP.tt, CondP.ff, add_r, sub_r, mul_r, lss_r, leq_r, gtr_r, geq_r, eql_r, neq_r, eqs_r, nes_r, not_r, nil_r, Bool.not_true, Bool.not_false, if_true, if_false, Bool.false_eq_true, decide_true, decide_false, Nat.zero_add, Bool.and_true, Bool.true_and]
  refine GoN.does pl26 (keptMessages (hm'.ext e02) (hm.ext e02) hm1 hm2 hx.msgs hx.msg) ?_
  rintro v w3 ⟨rfl, e3⟩
  have b1 := b1.ext e3
  have b2 := b2.ext e3
  have e03 := e02.trans e3
  simp only [Pure.run (p_field (o := 0) fld32_0), Pure.run (p_field (o := 0) fld32_1), Pure.run (p_field (o := 0) fld32_2), Pure.run (p_field (o := 0) fld32_3), Pure.run (p_field (o := 0) fld32_4), ld1 b1 one4 (o := 0) rfl, ldN b1 agg25 (o := 1) rfl, ldN b1 agg28 (o := 4) rfl, ld1 b1 one29 (o := 7) rfl, ld1 b1 one30 (o := 8) rfl, ld1 b2 one4 (o := 0) rfl, ldN b2 agg25 (o := 1) rfl, ldN b2 agg28 (o := 4) rfl, ld1 b2 one29 (o := 7) rfl, ld1 b2 one30 (o := 8) rfl, List.drop_zero, List.drop_succ_cons, List.take_succ_cons, List.take_zero, JoinP.eq, PickP.eq, GuardP.yes, GuardP.undef, GuardP.no (show (true == false) = false from rfl), GuardP.no (show (false == true) = false from rfl), CondP.tt, CondP.ff, add_r, sub_r, mul_r, lss_r, leq_r, gtr_r, geq_r, eql_r, neq_r, eqs_r, nes_r, not_r, nil_r, Bool.not_true, Bool.not_false, if_true, if_false, Bool.false_eq_true, decide_true, decide_false, Nat.zero_add, Bool.and_true, Bool.true_and]
  refine GoN.does pl27 (keptTables (hm'.ext e03) (hm.ext e03) ht1 ht2 hx.tabs hx.tab) ?_
  rintro v w4 ⟨rfl, e4⟩
  have b1 := b1.ext e4
  have b2 := b2.ext e4
  have e04 := e03.trans e4
  simp only [Pure.run (p_field (o := 0) fld32_0), Pure.run (p_field (o := 0) fld32_1), Pure.run (p_field (o := 0) fld32_2), Pure.run (p_field (o := 0) fld32_3), Pure.run (p_field (o := 0) fld32_4), ld1 b1 one4 (o := 0) rfl, ldN b1 agg25 (o := 1) rfl, ldN b1 agg28 (o := 4) rfl, ld1 b1 one29 (o := 7) rfl, ld1 b1 one30 (o := 8) rfl, ld1 b2 one4 (o := 0) rfl, ldN b2 agg25 (o := 1) rfl, ldN b2 agg28 (o := 4) rfl, ld1 b2 one29 (o := 7) rfl, ld1 b2 one30 (o := 8) rfl, List.drop_zero, List.drop_succ_cons, List.take_succ_cons, List.take_zero, JoinP.eq, PickP.eq, GuardP.yes, GuardP.undef, GuardP.no (show (true == false) = false from rfl), GuardP.no (show (false == true) = false from rfl), CondP.tt, CondP.ff, add_r, sub_r, mul_r, lss_r, leq_r, gtr_r, geq_r, eql_r, neq_r, eqs_r, nes_r, not_r, nil_r, Bool.not_true, Bool.not_false, if_true, if_false, Bool.false_eq_true, decide_true, decide_false, Nat.zero_add, Bool.and_true, Bool.true_and]
  refine GoN.does pl28 (keptStations (x := x.sta) (hm'.ext e04) (hm.ext e04) hs1 hs2 hx.names) ?_
  rintro v w5 ⟨rfl, e5⟩
  exact ⟨rfl, e04.trans e5⟩
end Go.Proofs.Ytmgleeoecdodjaa.Sh
