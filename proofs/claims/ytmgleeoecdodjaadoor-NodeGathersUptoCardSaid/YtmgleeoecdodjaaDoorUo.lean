/- That two databases that are alike are said to be the same. Conditions: lengths up to 2^30. -/
import Derived.Test.YtmgleeoecdodjaaDoorTg
set_option linter.unusedVariables false
set_option linter.unusedSimpArgs false
set_option maxRecDepth 10000
namespace Go.Proofs.YtmgleeoecdodjaaDoor.Sh
open Go Go.V Go.RowKit

theorem sameMessages {m m' : Mem} {a b : Value} {xs : List DMsg} {w : World} (hm : Sub m w) (hm' : Sub m' w) (ha : Msgs m a xs) (hb : Msgs m' b xs) (hn : xs.length ≤ 1073741824) (hto : ∀ s ∈ xs, OkMsg s) :
    Does Tryd.prog 26 [a, b] w (Yes w) := by
  obtain ⟨p, c, rfl, hc⟩ := ha.form
  obtain ⟨p', c', rfl, hc'⟩ := hb.form
  refine D26 ?_
  unfold S26
  simp only [Pure.run (p_len sl29.slice), JoinP.eq, PickP.eq, GuardP.yes, GuardP.undef, GuardP.no (show (true == false) = false from rfl), GuardP.no (show (false == true) = false from rfl), CondP.tt, CondP.ff, add_r, sub_r, mul_r, lss_r, leq_r, gtr_r, geq_r, eql_r, neq_r, eqs_r, nes_r, not_r, nil_r, Bool.not_true, Bool.not_false, if_true, if_false, Bool.false_eq_true, decide_true, decide_false, Nat.zero_add, Bool.and_true, Bool.true_and]
  refine LoopP.of2 (fun r i w' => ∃ k : Nat, k ≤ xs.length ∧ i = .int .i64 k ∧ Ext w w') (fun _ i _ => xs.length - (intOf i).toNat) ⟨0, by omega, rfl, Ext.refl _⟩ ?_
  rintro r i w' ⟨k, hk, rfl, hext⟩
  simp only [Pure.run (p_len sl29.slice), lss_r]
  refine CondP.dec (fun h => ?_) (fun h => ?_)
  · have hk' : k < xs.length := by omega
    obtain ⟨s, hs⟩ : ∃ s, xs[k]? = some s := ⟨xs[k], by simp [hk']⟩
    have hmem := List.mem_of_getElem? hs
    obtain ⟨bl, ol, cs, rfl, _, _, _, hat, ⟨v1, rfl, ht1⟩⟩ := ha.get hs
    obtain ⟨bl', ol', cs, rfl, _, _, _, hat', ⟨v2, rfl, ht2⟩⟩ := hb.get hs
    try simp only [JoinP.eq]
    intro w1 he1
    have hext1 := hext.trans he1
    rw [Pure.runQ (p_idx (e := 77) (sz := 8) sl29.slice size77 (by omega) (by omega))]
    refine q_loadN agg77 rfl (hat w1 (hm.ext hext1)) ?_
    rw [Pure.runQ (p_idx (e := 77) (sz := 8) sl29.slice size77 (by omega) (by omega))]
    refine q_loadN agg77 rfl (hat' w1 (hm'.ext hext1)) ?_
    refine GoN.does pl17 (sameMessage (hm.ext hext1) (hm'.ext hext1) ht1 ht2 (hto s hmem)) ?_
    rintro v w2 ⟨rfl, he2⟩
    refine ⟨he2, ?_⟩
    simp only [PickQ.eq, GuardQ.yes, GuardQ.undef, GuardQ.no (show (true == false) = false from rfl), GuardQ.no (show (false == true) = false from rfl), eql_q, neq_q, lss_q, add_q, sub_q, eqs_q, nes_q, not_q, JoinP.eq, PickP.eq, GuardP.yes, GuardP.undef, GuardP.no (show (true == false) = false from rfl), GuardP.no (show (false == true) = false from rfl), CondP.tt, CondP.ff, add_r, sub_r, mul_r, lss_r, leq_r, gtr_r, geq_r, eql_r, neq_r, eqs_r, nes_r, not_r, nil_r, Bool.not_true, Bool.not_false, if_true, if_false, Bool.false_eq_true, decide_true, decide_false, Nat.zero_add, Bool.and_true, Bool.true_and]
    refine ⟨⟨k + 1, by omega, succ64 (by omega), hext1.trans he2⟩, ?_⟩
    rw [succ64 (by omega)]; simp [intOf]; omega
  · exact ⟨rfl, hext⟩
theorem sameTables {m m' : Mem} {a b : Value} {xs : List DTab} {w : World} (hm : Sub m w) (hm' : Sub m' w) (ha : Tabs m a xs) (hb : Tabs m' b xs) (hn : xs.length ≤ 1073741824) (hto : ∀ s ∈ xs, s.rows.length ≤ 1073741824) :
    Does Tryd.prog 27 [a, b] w (Yes w) := by
  obtain ⟨p, c, rfl, hc⟩ := ha.form
  obtain ⟨p', c', rfl, hc'⟩ := hb.form
  refine D27 ?_
  unfold S27
  simp only [Pure.run (p_len sl30.slice), JoinP.eq, PickP.eq, GuardP.yes, GuardP.undef, GuardP.no (show (true == false) = false from rfl), GuardP.no (show (false == true) = false from rfl), CondP.tt, CondP.ff, add_r, sub_r, mul_r, lss_r, leq_r, gtr_r, geq_r, eql_r, neq_r, eqs_r, nes_r, not_r, nil_r, Bool.not_true, Bool.not_false, if_true, if_false, Bool.false_eq_true, decide_true, decide_false, Nat.zero_add, Bool.and_true, Bool.true_and]
  refine LoopP.of2 (fun r i w' => ∃ k : Nat, k ≤ xs.length ∧ i = .int .i64 k ∧ Ext w w') (fun _ i _ => xs.length - (intOf i).toNat) ⟨0, by omega, rfl, Ext.refl _⟩ ?_
  rintro r i w' ⟨k, hk, rfl, hext⟩
  simp only [Pure.run (p_len sl30.slice), lss_r]
  refine CondP.dec (fun h => ?_) (fun h => ?_)
  · have hk' : k < xs.length := by omega
    obtain ⟨s, hs⟩ : ∃ s, xs[k]? = some s := ⟨xs[k], by simp [hk']⟩
    have hmem := List.mem_of_getElem? hs
    obtain ⟨bl, ol, cs, rfl, _, _, _, hat, ⟨v1, rfl, ht1⟩⟩ := ha.get hs
    obtain ⟨bl', ol', cs, rfl, _, _, _, hat', ⟨v2, rfl, ht2⟩⟩ := hb.get hs
    try simp only [JoinP.eq]
    intro w1 he1
    have hext1 := hext.trans he1
    rw [Pure.runQ (p_idx (e := 81) (sz := 6) sl30.slice size81 (by omega) (by omega))]
    refine q_loadN agg81 rfl (hat w1 (hm.ext hext1)) ?_
    rw [Pure.runQ (p_idx (e := 81) (sz := 6) sl30.slice size81 (by omega) (by omega))]
    refine q_loadN agg81 rfl (hat' w1 (hm'.ext hext1)) ?_
    refine GoN.does pl18 (sameTable (hm.ext hext1) (hm'.ext hext1) ht1 ht2 (hto s hmem)) ?_
    rintro v w2 ⟨rfl, he2⟩
    refine ⟨he2, ?_⟩
    simp only [PickQ.eq, GuardQ.yes, GuardQ.undef, GuardQ.no (show (true == false) = false from rfl), GuardQ.no (show (false == true) = false from rfl), eql_q, neq_q, lss_q, add_q, sub_q, eqs_q, nes_q, not_q, JoinP.eq, PickP.eq, GuardP.yes, GuardP.undef, GuardP.no (show (true == false) = false from rfl), GuardP.no (show (false == true) = false from rfl), CondP.tt, CondP.ff, add_r, sub_r, mul_r, lss_r, leq_r, gtr_r, geq_r, eql_r, neq_r, eqs_r, nes_r, not_r, nil_r, Bool.not_true, Bool.not_false, if_true, if_false, Bool.false_eq_true, decide_true, decide_false, Nat.zero_add, Bool.and_true, Bool.true_and]
    refine ⟨⟨k + 1, by omega, succ64 (by omega), hext1.trans he2⟩, ?_⟩
    rw [succ64 (by omega)]; simp [intOf]; omega
  · exact ⟨rfl, hext⟩
theorem sameDatabase {m m' : Mem} {a b : Value} {x : DDb} {w : World} (hm : Sub m w) (hm' : Sub m' w) (ha : RDb m a x) (hb : RDb m' b x) (hx : OkDb x) :
    Does Tryd.prog 10 [a, b] w (Yes w) := by
  obtain ⟨s, ms, ts, rfl, hs, hms, hts⟩ := ha.h
  obtain ⟨s', ms', ts', rfl, hs', hms', hts'⟩ := hb.h
  refine D10 ?_
  unfold S10
  refine r_box fun w1 e1 z1 b1 => ?_
  refine r_box fun w2 e2 z2 b2 => ?_
  have b1 : Blk w2 w.heap.size (x.cells s ms ts) 32 := b1.ext e2
  have b2 : Blk w2 w1.heap.size (x.cells s' ms' ts') 32 := b2
  have e02 := e1.trans e2
  rw [Pure.run (p_field (o := 0) fld32_0), ld1 b1 one4 (o := 0 + 0) rfl, Pure.run (p_field (o := 0) fld32_0), ld1 b2 one4 (o := 0 + 0) rfl]
  simp only [eqb_r, decide_true, GuardP.yes]
  rw [Pure.run (p_field (o := 0) fld32_1), ldN b1 agg25 (o := 0 + 1) rfl, Pure.run (p_field (o := 0) fld32_1), ldN b2 agg25 (o := 0 + 1) rfl]
  rw [show (((x.cells s ms ts).drop (0 + 1)).take 3).toArray = #[.int .i64 x.ver.line, .int .i64 x.ver.col, .string x.ver.text] from rfl, show (((x.cells s' ms' ts').drop (0 + 1)).take 3).toArray = #[.int .i64 x.ver.line, .int .i64 x.ver.col, .string x.ver.text] from rfl]
  simp only [Pure.run eqs25, JoinP.eq, PickP.eq, GuardP.yes, GuardP.undef, GuardP.no (show (true == false) = false from rfl), GuardP.no (show (false == true) = false from rfl), CondP.tt, CondP.ff, add_r, sub_r, mul_r, lss_r, leq_r, gtr_r, geq_r, eql_r, neq_r, eqs_r, nes_r, not_r, nil_r, Bool.not_true, Bool.not_false, if_true, if_false, Bool.false_eq_true, decide_true, decide_false, Nat.zero_add, Bool.and_true, Bool.true_and]
  rw [Pure.run (p_field (o := 0) fld32_3), ld1 b1 one29 (o := 0 + 7) rfl, Pure.run (p_field (o := 0) fld32_3), ld1 b2 one29 (o := 0 + 7) rfl]
  refine GoN.does pl26 (sameMessages (hm.ext e02) (hm'.ext e02) hms hms' hx.msgs hx.msg) ?_
  rintro _ w3 ⟨rfl, e3⟩
  have b1 := b1.ext e3
  have b2 := b2.ext e3
  have e03 := e02.trans e3
  simp only [PickP.eq, if_true, GuardP.yes]
  rw [Pure.run (p_field (o := 0) fld32_4), ld1 b1 one30 (o := 0 + 8) rfl, Pure.run (p_field (o := 0) fld32_4), ld1 b2 one30 (o := 0 + 8) rfl]
  refine GoN.does pl27 (sameTables (hm.ext e03) (hm'.ext e03) hts hts' hx.tabs hx.tab) ?_
  rintro _ w4 ⟨rfl, e4⟩
  have b1 := b1.ext e4
  have b2 := b2.ext e4
  have e04 := e03.trans e4
  simp only [PickP.eq, if_true, GuardP.yes]
  rw [Pure.run (p_field (o := 0) fld32_2), ldN b1 agg28 (o := 0 + 4) rfl, Pure.run (p_field (o := 0) fld32_2), ldN b2 agg28 (o := 0 + 4) rfl]
  refine GoN.does pl16 (sameStations (x := x.sta) (hm.ext e04) (hm'.ext e04) hs hs' hx.names) ?_
  rintro _ w5 ⟨rfl, e5⟩
  try simp only [JoinP.eq, PickP.eq, GuardP.yes, GuardP.undef, GuardP.no (show (true == false) = false from rfl), GuardP.no (show (false == true) = false from rfl), CondP.tt, CondP.ff, add_r, sub_r, mul_r, lss_r, leq_r, gtr_r, geq_r, eql_r, neq_r, eqs_r, nes_r, not_r, nil_r, Bool.not_true, Bool.not_false, if_true, if_false, Bool.false_eq_true, decide_true, decide_false, Nat.zero_add, Bool.and_true, Bool.true_and]
  exact ⟨rfl, e04.trans e5⟩
end Go.Proofs.YtmgleeoecdodjaaDoor.Sh
