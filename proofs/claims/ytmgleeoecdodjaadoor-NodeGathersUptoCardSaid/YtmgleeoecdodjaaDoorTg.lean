/- The parts told from a database: that told says true of them. Conditions: lengths up to 2^30. -/
import Derived.Test.YtmgleeoecdodjaaDoorTf
set_option linter.unusedVariables false
set_option linter.unusedSimpArgs false
set_option maxRecDepth 10000
namespace Go.Proofs.YtmgleeoecdodjaaDoor.Sh
open Go Go.V Go.RowKit

theorem len_of_data {ns : List PNode} {ds : List DNode} (h : ns.map PNode.data = ds) : ns.length = ds.length := by rw [← h, List.length_map]
theorem told {m : Mem} {d l : Value} {x : DDb} {ns : List PNode} {w : World} {lo hi : Nat} (hm : Sub m w) (hd : RDb m d x) (hx : OkDb x) (hns : ns.map PNode.data = x.nodes) (hl : Own w 49 1 l ns.length (ns.map PNode.val)) (ho : ONodes w lo ns hi) :
    Does Tryd.prog 4 [l, d] w (Yes w) := by
  obtain ⟨s, ms, ts, rfl, hs, hms, hts⟩ := hd.h
  have n1 := hx.names
  have n2 := hx.msgs
  have n3 := hx.tabs
  have nl := nodes_len x
  have nn := len_of_data hns
  refine D4 ?_
  unfold S4
  refine r_box fun w1 e1 z1 b1 => ?_
  have b1 : Blk w1 w.heap.size (x.cells s ms ts) 32 := b1
  rw [ldN b1 agg32 (o := 0) rfl]
  refine GoN.does pl15 (kinds (x := x) (hm.ext e1) hd hx) ?_
  rintro kv w2 ⟨hk, e2, _⟩
  have bd := b1.ext e2
  have e02 := e1.trans e2
  have hl := hl.ext e02
  obtain ⟨p, c, rfl, hpc⟩ := hl.len
  obtain ⟨p', c', rfl, hpc'⟩ := hk.len
  simp only [Pure.run (p_len sl35.slice), Pure.run (p_len sl33.slice), nn, JoinP.eq, PickP.eq, GuardP.yes, GuardP.undef, GuardP.no (show (true == false) = false from rfl), GuardP.no (show (false == true) = false from rfl), CondP.tt, CondP.ff, add_r, sub_r, mul_r, lss_r, leq_r, gtr_r, geq_r, eql_r, neq_r, eqs_r, nes_r, not_r, nil_r, Bool.not_true, Bool.not_false, if_true, if_false, Bool.false_eq_true, decide_true, decide_false, Nat.zero_add, Bool.and_true, Bool.true_and]
  refine LoopP.of4 (fun mi t4 ti i w' => ∃ k : Nat, k ≤ x.nodes.length ∧ i = .int .i64 k ∧ mi = .int .i64 (((x.nodes.take k).filterMap DNode.msg?).length : Nat) ∧ ti = .int .i64 (((x.nodes.take k).filterMap DNode.tab?).length : Nat) ∧ Ext w2 w') (fun _ _ _ i _ => x.nodes.length - (intOf i).toNat)
    ⟨0, Nat.zero_le _, rfl, rfl, rfl, Ext.refl _⟩ ?_
  rintro mi t4 ti i u0 ⟨k, hk1, rfl, rfl, rfl, hext⟩
  simp only [Pure.run (p_len sl35.slice), nn, lss_r]
  refine CondP.dec (fun h => ?_) (fun h => ?_)
  · have hk' : k < x.nodes.length := by omega
    obtain ⟨n, hn⟩ : ∃ n, ns[k]? = some n := ⟨ns[k], by simp [nn, hk']⟩
    have hdn : x.nodes[k]? = some n.data := by rw [← hns, List.getElem?_map, hn]; rfl
    obtain ⟨a, b, hnode⟩ := ho.get hn
    have hone := hnode.one
    obtain ⟨g, c2, hg, _, hat⟩ := (hl.ext hext).at (by omega)
    injection hg with hg1 hg2 hg3
    subst hg1; subst hg3
    obtain ⟨g', c3, hg', _, hat'⟩ := (hk.ext hext).at (by omega)
    injection hg' with hg1' hg2' hg3'
    subst hg1'; subst hg3'
    have hc0 : u0.cell? ⟨g, k, none⟩ = some n.val := by
      have := hat k n.val (by rw [List.getElem?_map, hn]; rfl)
      simpa using this
    have hk0 : u0.cell? ⟨g', k, none⟩ = some (.int .i64 n.data.kind) := by
      have := hat' k (.int .i64 n.data.kind) (by simp only [kindVals]; rw [List.getElem?_map, hdn]; rfl)
      simpa using this
    have pL : Pure Tryd.prog (Instr.indexAt 35 (.slice (some ⟨g, 0, none⟩) x.nodes.length c) (.int .i64 (k : Int))) (.pointer (some ⟨g, k, none⟩)) := by
      have := p_idx (P := Tryd.prog) (b := g) (o := 0) (n := x.nodes.length) (c := c) (k := .i64) (i := (k : Int)) sl35.slice size49 (by omega) (by omega)
      simpa using this
    have pK : Pure Tryd.prog (Instr.indexAt 33 (.slice (some ⟨g', 0, none⟩) x.nodes.length c') (.int .i64 (k : Int))) (.pointer (some ⟨g', k, none⟩)) := by
      have := p_idx (P := Tryd.prog) (b := g') (o := 0) (n := x.nodes.length) (c := c') (k := .i64) (i := (k : Int)) sl33.slice size3 (by omega) (by omega)
      simpa using this
    obtain ⟨za, pa, la, oa, va⟩ := as_ver hone
    obtain ⟨zs, ps, ls, os, vs⟩ := as_sta hone
    obtain ⟨zm, pm, lm, om, vm⟩ := as_msg hone
    obtain ⟨zt, pt, lt, ot, vt⟩ := as_tab hone
    have hm0 := (hm.ext e02).ext hext
    simp only [JoinP.eq]
    rw [Pure.run pL, ldc one49 hc0]
    refine r_as pa zero25 size25 rfl la oa fun u1 f1 q1 => ?_
    rw [Pure.run pL, ldc one49 (cell_ext hc0 f1)]
    refine r_as ps zero28 size28 rfl ls os fun u2 f2 q2 => ?_
    have f02 := f1.trans f2
    rw [Pure.run pL, ldc one49 (cell_ext hc0 f02)]
    refine r_as pm zero77 size77 rfl lm om fun u3 f3 q3 => ?_
    have f03 := f02.trans f3
    rw [Pure.run pL, ldc one49 (cell_ext hc0 f03)]
    refine r_as pt zero81 size81 rfl lt ot fun u4 f4 q4 => ?_
    have f04 := f03.trans f4
    have q1 := q1.ext ((f2.trans f3).trans f4)
    have q2 := q2.ext (f3.trans f4)
    have q3 := q3.ext f4
    have hc4 := cell_ext hc0 f04
    simp only [Pure.run pK, ldc one3 (cell_ext hk0 f04), eqb_r, neb_r, JoinP.eq, PickP.eq, GuardP.yes, GuardP.undef, GuardP.no (show (true == false) = false from rfl), GuardP.no (show (false == true) = false from rfl), CondP.tt, CondP.ff, add_r, sub_r, mul_r, lss_r, leq_r, gtr_r, geq_r, eql_r, neq_r, eqs_r, nes_r, not_r, nil_r, Bool.not_true, Bool.not_false, if_true, if_false, Bool.false_eq_true, decide_true, decide_false, Nat.zero_add, Bool.and_true, Bool.true_and]
    intro u5 f5
    have q1 := q1.ext f5
    have q2 := q2.ext f5
    have q3 := q3.ext f5
    have q4 := q4.ext f5
    have hc5 := cell_ext hc4 f5
    have f05 := f04.trans f5
    have bd5 := (bd.ext hext).ext f05
    have hm5 := hm0.ext f05
    have hstep1 := filter_step DNode.msg? hdn
    have hstep2 := filter_step DNode.tab? hdn
    have fin : ∀ w', Ext u5 w' → ∀ mi' ti', mi' = Value.int .i64 (((x.nodes.take (k + 1)).filterMap DNode.msg?).length : Nat) → ti' = Value.int .i64 (((x.nodes.take (k + 1)).filterMap DNode.tab?).length : Nat) →
        (∃ k_1, k_1 ≤ x.nodes.length ∧ Value.int .i64 (IntKind.i64.wrap ((k : Int) + 1)) = .int .i64 (k_1 : Nat) ∧ mi' = Value.int .i64 (((x.nodes.take k_1).filterMap DNode.msg?).length : Nat) ∧ ti' = Value.int .i64 (((x.nodes.take k_1).filterMap DNode.tab?).length : Nat) ∧ Ext w2 w') ∧
        x.nodes.length - (intOf (Value.int .i64 (IntKind.i64.wrap ((k : Int) + 1)))).toNat < x.nodes.length - (intOf (.int .i64 (k : Int))).toNat := by
      intro w' hw' mi' ti' h1 h2
      refine ⟨⟨k + 1, by omega, succ64 (by omega), h1, h2, hext.trans (f05.trans hw')⟩, ?_⟩
      rw [succ64 (by omega)]; simp [intOf]; omega
    cases n with
    | ver y =>
      obtain rfl := va y rfl
      obtain rfl : y = x.ver := nodes_ver (List.mem_of_getElem? hdn)
      have q1 : Blk u5 u0.heap.size x.ver.cells 25 := q1
      have d2 : decide ((PNode.ver x.ver).data.kind = 2) = false := rfl
      have d1 : decide ((PNode.ver x.ver).data.kind = 1) = true := rfl
      have d3 : decide ((PNode.ver x.ver).data.kind = 3) = false := rfl
      have d4 : decide ((PNode.ver x.ver).data.kind = 4) = false := rfl
      simp only [d1, d2, d3, d4, PickQ.eq, GuardQ.yes, GuardQ.undef, GuardQ.no (show (true == false) = false from rfl), GuardQ.no (show (false == true) = false from rfl), eql_q, neq_q, lss_q, add_q, sub_q, eqs_q, nes_q, not_q, JoinP.eq, PickP.eq, GuardP.yes, GuardP.undef, GuardP.no (show (true == false) = false from rfl), GuardP.no (show (false == true) = false from rfl), CondP.tt, CondP.ff, add_r, sub_r, mul_r, lss_r, leq_r, gtr_r, geq_r, eql_r, neq_r, eqs_r, nes_r, not_r, nil_r, Bool.not_true, Bool.not_false, if_true, if_false, Bool.false_eq_true, decide_true, decide_false, Nat.zero_add, Bool.and_true, Bool.true_and]
      simp only [Pure.runQ (p_field (o := 0) fld32_1), ldNQ bd5 agg25 (o := 0 + 1) rfl, ldNQ q1 agg25 (o := 0) rfl]
      simp only [DVer.cells, DDb.cells, Nat.zero_add, List.drop_zero, List.drop_succ_cons, List.take_succ_cons, List.take_zero, Pure.runQ nes25, Pure.runQ pL, ldcQ one49 hc5, PickQ.eq, GuardQ.yes, GuardQ.undef, GuardQ.no (show (true == false) = false from rfl), GuardQ.no (show (false == true) = false from rfl), eql_q, neq_q, lss_q, add_q, sub_q, eqs_q, nes_q, not_q, JoinP.eq, PickP.eq, GuardP.yes, GuardP.undef, GuardP.no (show (true == false) = false from rfl), GuardP.no (show (false == true) = false from rfl), CondP.tt, CondP.ff, add_r, sub_r, mul_r, lss_r, leq_r, gtr_r, geq_r, eql_r, neq_r, eqs_r, nes_r, not_r, nil_r, Bool.not_true, Bool.not_false, if_true, if_false, Bool.false_eq_true, decide_true, decide_false, Nat.zero_add, Bool.and_true, Bool.true_and]
      refine GoN.meth (mWhVer _ _) (whVer x.ver u5) ?_
      rintro _ u6 ⟨rfl, f6⟩
      refine ⟨f6, ?_⟩
      simp only [Pure.runQ (p_field (o := 0) fld25_0), Nat.zero_add]
      rw [ldNQ (o := 0) q1 agg23 rfl]
      simp only [DVer.cells, List.drop_zero, List.take_succ_cons, List.take_zero, Pure.runQ nes23, PickQ.eq, GuardQ.yes, GuardQ.undef, GuardQ.no (show (true == false) = false from rfl), GuardQ.no (show (false == true) = false from rfl), eql_q, neq_q, lss_q, add_q, sub_q, eqs_q, nes_q, not_q, JoinP.eq, PickP.eq, GuardP.yes, GuardP.undef, GuardP.no (show (true == false) = false from rfl), GuardP.no (show (false == true) = false from rfl), CondP.tt, CondP.ff, add_r, sub_r, mul_r, lss_r, leq_r, gtr_r, geq_r, eql_r, neq_r, eqs_r, nes_r, not_r, nil_r, Bool.not_true, Bool.not_false, if_true, if_false, Bool.false_eq_true, decide_true, decide_false, Nat.zero_add, Bool.and_true, Bool.true_and]
      refine ⟨f6, ?_⟩
      try simp only [PickQ.eq, GuardQ.yes, GuardQ.undef, GuardQ.no (show (true == false) = false from rfl), GuardQ.no (show (false == true) = false from rfl), eql_q, neq_q, lss_q, add_q, sub_q, eqs_q, nes_q, not_q, JoinP.eq, PickP.eq, GuardP.yes, GuardP.undef, GuardP.no (show (true == false) = false from rfl), GuardP.no (show (false == true) = false from rfl), CondP.tt, CondP.ff, add_r, sub_r, mul_r, lss_r, leq_r, gtr_r, geq_r, eql_r, neq_r, eqs_r, nes_r, not_r, nil_r, Bool.not_true, Bool.not_false, if_true, if_false, Bool.false_eq_true, decide_true, decide_false, Nat.zero_add, Bool.and_true, Bool.true_and]
      refine fin u6 f6 _ _ ?_ ?_
      · rw [hstep1]; simp [PNode.data, DNode.msg?]
      · rw [hstep2]; simp [PNode.data, DNode.tab?]
    | sta y v =>
      obtain rfl := vs y v rfl
      obtain rfl : y = x.sta := nodes_sta (List.mem_of_getElem? hdn)
      have q2 : Blk u5 u1.heap.size (x.sta.pre ++ [v]) 28 := q2
      have d2 : decide ((PNode.sta x.sta v).data.kind = 2) = true := rfl
      have d1 : decide ((PNode.sta x.sta v).data.kind = 1) = false := rfl
      have d3 : decide ((PNode.sta x.sta v).data.kind = 3) = false := rfl
      have d4 : decide ((PNode.sta x.sta v).data.kind = 4) = false := rfl
      simp only [d1, d2, d3, d4, PickQ.eq, GuardQ.yes, GuardQ.undef, GuardQ.no (show (true == false) = false from rfl), GuardQ.no (show (false == true) = false from rfl), eql_q, neq_q, lss_q, add_q, sub_q, eqs_q, nes_q, not_q, JoinP.eq, PickP.eq, GuardP.yes, GuardP.undef, GuardP.no (show (true == false) = false from rfl), GuardP.no (show (false == true) = false from rfl), CondP.tt, CondP.ff, add_r, sub_r, mul_r, lss_r, leq_r, gtr_r, geq_r, eql_r, neq_r, eqs_r, nes_r, not_r, nil_r, Bool.not_true, Bool.not_false, if_true, if_false, Bool.false_eq_true, decide_true, decide_false, Nat.zero_add, Bool.and_true, Bool.true_and]
      refine ⟨Ext.refl _, ?_⟩
      try simp only [PickQ.eq, GuardQ.yes, GuardQ.undef, GuardQ.no (show (true == false) = false from rfl), GuardQ.no (show (false == true) = false from rfl), eql_q, neq_q, lss_q, add_q, sub_q, eqs_q, nes_q, not_q, JoinP.eq, PickP.eq, GuardP.yes, GuardP.undef, GuardP.no (show (true == false) = false from rfl), GuardP.no (show (false == true) = false from rfl), CondP.tt, CondP.ff, add_r, sub_r, mul_r, lss_r, leq_r, gtr_r, geq_r, eql_r, neq_r, eqs_r, nes_r, not_r, nil_r, Bool.not_true, Bool.not_false, if_true, if_false, Bool.false_eq_true, decide_true, decide_false, Nat.zero_add, Bool.and_true, Bool.true_and]
      simp only [Pure.runQ (p_field (o := 0) fld32_2), ldNQ q2 agg28 (o := 0) rfl, ldNQ bd5 agg28 (o := 0 + 4) rfl]
      have hv := Own.texts (((hnode.1.ext e02).ext hext).ext f05)
      refine GoN.does pl16 (sameStations (x := x.sta) (Sub.self u5) hm5 hv hs n1) ?_
      rintro _ u6 ⟨rfl, f6⟩
      refine ⟨f6, ?_⟩
      simp only [PickQ.eq, GuardQ.yes, GuardQ.undef, GuardQ.no (show (true == false) = false from rfl), GuardQ.no (show (false == true) = false from rfl), eql_q, neq_q, lss_q, add_q, sub_q, eqs_q, nes_q, not_q, JoinP.eq, PickP.eq, GuardP.yes, GuardP.undef, GuardP.no (show (true == false) = false from rfl), GuardP.no (show (false == true) = false from rfl), CondP.tt, CondP.ff, add_r, sub_r, mul_r, lss_r, leq_r, gtr_r, geq_r, eql_r, neq_r, eqs_r, nes_r, not_r, nil_r, Bool.not_true, Bool.not_false, if_true, if_false, Bool.false_eq_true, decide_true, decide_false, Nat.zero_add, Bool.and_true, Bool.true_and]
      refine fin u6 f6 _ _ ?_ ?_
      · rw [hstep1]; simp [PNode.data, DNode.msg?]
      · rw [hstep2]; simp [PNode.data, DNode.tab?]
    | msg y v tvs =>
      obtain rfl := vm y v tvs rfl
      have q3 : Blk u5 u2.heap.size (y.pre ++ [v]) 77 := q3
      have d2 : decide ((PNode.msg y v tvs).data.kind = 2) = false := rfl
      have d1 : decide ((PNode.msg y v tvs).data.kind = 1) = false := rfl
      have d3 : decide ((PNode.msg y v tvs).data.kind = 3) = true := rfl
      have d4 : decide ((PNode.msg y v tvs).data.kind = 4) = false := rfl
      have hy := filter_get DNode.msg? hdn (b := y) rfl
      rw [nodes_msgs] at hy
      generalize hcm : ((x.nodes.take k).filterMap DNode.msg?).length = cm at hy hstep1 ⊢
      obtain ⟨pm2, cm2, rfl, hpm2⟩ := hms.form
      obtain ⟨b2, o2, cs, rfl, _, hlt, _, hat2, ⟨v2, rfl, hsg⟩⟩ := hms.get hy
      have hwv := ((OMsg.ext (OMsg.ext (OMsg.ext hnode e02) hext) f05).sigs)
      simp only [d1, d2, d3, d4, PickQ.eq, GuardQ.yes, GuardQ.undef, GuardQ.no (show (true == false) = false from rfl), GuardQ.no (show (false == true) = false from rfl), eql_q, neq_q, lss_q, add_q, sub_q, eqs_q, nes_q, not_q, JoinP.eq, PickP.eq, GuardP.yes, GuardP.undef, GuardP.no (show (true == false) = false from rfl), GuardP.no (show (false == true) = false from rfl), CondP.tt, CondP.ff, add_r, sub_r, mul_r, lss_r, leq_r, gtr_r, geq_r, eql_r, neq_r, eqs_r, nes_r, not_r, nil_r, Bool.not_true, Bool.not_false, if_true, if_false, Bool.false_eq_true, decide_true, decide_false, Nat.zero_add, Bool.and_true, Bool.true_and]
      refine ⟨Ext.refl _, ?_⟩
      refine ⟨Ext.refl _, ?_⟩
      try simp only [PickQ.eq, GuardQ.yes, GuardQ.undef, GuardQ.no (show (true == false) = false from rfl), GuardQ.no (show (false == true) = false from rfl), eql_q, neq_q, lss_q, add_q, sub_q, eqs_q, nes_q, not_q, JoinP.eq, PickP.eq, GuardP.yes, GuardP.undef, GuardP.no (show (true == false) = false from rfl), GuardP.no (show (false == true) = false from rfl), CondP.tt, CondP.ff, add_r, sub_r, mul_r, lss_r, leq_r, gtr_r, geq_r, eql_r, neq_r, eqs_r, nes_r, not_r, nil_r, Bool.not_true, Bool.not_false, if_true, if_false, Bool.false_eq_true, decide_true, decide_false, Nat.zero_add, Bool.and_true, Bool.true_and]
      intro u6 f6
      have q3 := q3.ext f6
      have bd6 := bd5.ext f6
      have hc6 := cell_ext hc5 f6
      have pM : Pure Tryd.prog (Instr.indexAt 29 (.slice (some ⟨b2, o2, none⟩) x.msgs.length cm2) (.int .i64 (cm : Int))) (.pointer (some ⟨b2, o2 + cm * 8, none⟩)) := by
        have := p_idx (P := Tryd.prog) (b := b2) (o := o2) (n := x.msgs.length) (c := cm2) (k := .i64) (i := (cm : Int)) sl29.slice size77 (by omega) (by omega)
        simpa using this
      simp only [ldNQ q3 agg77 (o := 0) rfl, Pure.runQ (p_field (o := 0) fld32_3), ld1Q bd6 one29 (o := 0 + 7) rfl]
      simp only [Pure.runQ pM]
      refine q_loadN agg77 rfl (hat2 u6 (hm5.ext f6)) ?_
      refine GoN.does pl17 (sameMessage (x := y) (Sub.self u6) (hm5.ext f6) (OMsg.sigs (OMsg.ext (OMsg.ext (OMsg.ext (OMsg.ext hnode e02) hext) f05) f6)) hsg (hx.msg y (List.mem_of_getElem? hy))) ?_
      rintro _ u7 ⟨rfl, f7⟩
      refine ⟨f7, ?_⟩
      simp only [Pure.runQ pL, ldcQ one49 hc6, PickQ.eq, GuardQ.yes, GuardQ.undef, GuardQ.no (show (true == false) = false from rfl), GuardQ.no (show (false == true) = false from rfl), eql_q, neq_q, lss_q, add_q, sub_q, eqs_q, nes_q, not_q, JoinP.eq, PickP.eq, GuardP.yes, GuardP.undef, GuardP.no (show (true == false) = false from rfl), GuardP.no (show (false == true) = false from rfl), CondP.tt, CondP.ff, add_r, sub_r, mul_r, lss_r, leq_r, gtr_r, geq_r, eql_r, neq_r, eqs_r, nes_r, not_r, nil_r, Bool.not_true, Bool.not_false, if_true, if_false, Bool.false_eq_true, decide_true, decide_false, Nat.zero_add, Bool.and_true, Bool.true_and]
      refine GoN.meth (mWhMsg _ _) (whMsg y v u7) ?_
      rintro _ u8 ⟨rfl, f8⟩
      refine ⟨f7.trans f8, ?_⟩
      simp only [Pure.runQ (p_field (o := 0) fld77_0), Nat.zero_add]
      rw [ldNQ (o := 0) q3 agg23 rfl]
      simp only [DMsg.pre, List.cons_append, List.nil_append, List.drop_zero, List.take_succ_cons, List.take_zero, Pure.runQ nes23, PickQ.eq, GuardQ.yes, GuardQ.undef, GuardQ.no (show (true == false) = false from rfl), GuardQ.no (show (false == true) = false from rfl), eql_q, neq_q, lss_q, add_q, sub_q, eqs_q, nes_q, not_q, JoinP.eq, PickP.eq, GuardP.yes, GuardP.undef, GuardP.no (show (true == false) = false from rfl), GuardP.no (show (false == true) = false from rfl), CondP.tt, CondP.ff, add_r, sub_r, mul_r, lss_r, leq_r, gtr_r, geq_r, eql_r, neq_r, eqs_r, nes_r, not_r, nil_r, Bool.not_true, Bool.not_false, if_true, if_false, Bool.false_eq_true, decide_true, decide_false, Nat.zero_add, Bool.and_true, Bool.true_and]
      refine fin u8 (f6.trans (f7.trans f8)) _ _ ?_ ?_
      · rw [succ64 (by omega), hstep1]; simp [PNode.data, DNode.msg?, hcm]
      · rw [hstep2]; simp [PNode.data, DNode.tab?]
    | tab y v =>
      obtain rfl := vt y v rfl
      have q4 : Blk u5 u3.heap.size (y.pre ++ [v]) 81 := q4
      have d2 : decide ((PNode.tab y v).data.kind = 2) = false := rfl
      have d1 : decide ((PNode.tab y v).data.kind = 1) = false := rfl
      have d3 : decide ((PNode.tab y v).data.kind = 3) = false := rfl
      have d4 : decide ((PNode.tab y v).data.kind = 4) = true := rfl
      have hy := filter_get DNode.tab? hdn (b := y) rfl
      rw [nodes_tabs] at hy
      generalize hcm : ((x.nodes.take k).filterMap DNode.tab?).length = cm at hy hstep2 ⊢
      obtain ⟨pm2, cm2, rfl, hpm2⟩ := hts.form
      obtain ⟨b2, o2, cs, rfl, _, hlt, _, hat2, ⟨v2, rfl, hsg⟩⟩ := hts.get hy
      simp only [d1, d2, d3, d4, PickQ.eq, GuardQ.yes, GuardQ.undef, GuardQ.no (show (true == false) = false from rfl), GuardQ.no (show (false == true) = false from rfl), eql_q, neq_q, lss_q, add_q, sub_q, eqs_q, nes_q, not_q, JoinP.eq, PickP.eq, GuardP.yes, GuardP.undef, GuardP.no (show (true == false) = false from rfl), GuardP.no (show (false == true) = false from rfl), CondP.tt, CondP.ff, add_r, sub_r, mul_r, lss_r, leq_r, gtr_r, geq_r, eql_r, neq_r, eqs_r, nes_r, not_r, nil_r, Bool.not_true, Bool.not_false, if_true, if_false, Bool.false_eq_true, decide_true, decide_false, Nat.zero_add, Bool.and_true, Bool.true_and]
      refine ⟨Ext.refl _, ?_⟩
      refine ⟨Ext.refl _, ?_⟩
      try simp only [PickQ.eq, GuardQ.yes, GuardQ.undef, GuardQ.no (show (true == false) = false from rfl), GuardQ.no (show (false == true) = false from rfl), eql_q, neq_q, lss_q, add_q, sub_q, eqs_q, nes_q, not_q, JoinP.eq, PickP.eq, GuardP.yes, GuardP.undef, GuardP.no (show (true == false) = false from rfl), GuardP.no (show (false == true) = false from rfl), CondP.tt, CondP.ff, add_r, sub_r, mul_r, lss_r, leq_r, gtr_r, geq_r, eql_r, neq_r, eqs_r, nes_r, not_r, nil_r, Bool.not_true, Bool.not_false, if_true, if_false, Bool.false_eq_true, decide_true, decide_false, Nat.zero_add, Bool.and_true, Bool.true_and]
      intro u6 f6
      have q4 := q4.ext f6
      have bd6 := bd5.ext f6
      have hc6 := cell_ext hc5 f6
      have pM : Pure Tryd.prog (Instr.indexAt 30 (.slice (some ⟨b2, o2, none⟩) x.tabs.length cm2) (.int .i64 (cm : Int))) (.pointer (some ⟨b2, o2 + cm * 6, none⟩)) := by
        have := p_idx (P := Tryd.prog) (b := b2) (o := o2) (n := x.tabs.length) (c := cm2) (k := .i64) (i := (cm : Int)) sl30.slice size81 (by omega) (by omega)
        simpa using this
      simp only [ldNQ q4 agg81 (o := 0) rfl, Pure.runQ (p_field (o := 0) fld32_4), ld1Q bd6 one30 (o := 0 + 8) rfl]
      simp only [Pure.runQ pM]
      refine q_loadN agg81 rfl (hat2 u6 (hm5.ext f6)) ?_
      refine GoN.does pl18 (sameTable (x := y) (Sub.self u6) (hm5.ext f6) (Own.rows ((((hnode.1.ext e02).ext hext).ext f05).ext f6)) hsg (hx.tab y (List.mem_of_getElem? hy))) ?_
      rintro _ u7 ⟨rfl, f7⟩
      refine ⟨f7, ?_⟩
      simp only [Pure.runQ pL, ldcQ one49 hc6, PickQ.eq, GuardQ.yes, GuardQ.undef, GuardQ.no (show (true == false) = false from rfl), GuardQ.no (show (false == true) = false from rfl), eql_q, neq_q, lss_q, add_q, sub_q, eqs_q, nes_q, not_q, JoinP.eq, PickP.eq, GuardP.yes, GuardP.undef, GuardP.no (show (true == false) = false from rfl), GuardP.no (show (false == true) = false from rfl), CondP.tt, CondP.ff, add_r, sub_r, mul_r, lss_r, leq_r, gtr_r, geq_r, eql_r, neq_r, eqs_r, nes_r, not_r, nil_r, Bool.not_true, Bool.not_false, if_true, if_false, Bool.false_eq_true, decide_true, decide_false, Nat.zero_add, Bool.and_true, Bool.true_and]
      refine GoN.meth (mWhTab _ _) (whTab y v u7) ?_
      rintro _ u8 ⟨rfl, f8⟩
      refine ⟨f7.trans f8, ?_⟩
      simp only [Pure.runQ (p_field (o := 0) fld81_0), Nat.zero_add]
      rw [ldNQ (o := 0) q4 agg23 rfl]
      simp only [DTab.pre, List.cons_append, List.nil_append, List.drop_zero, List.take_succ_cons, List.take_zero, Pure.runQ nes23, PickQ.eq, GuardQ.yes, GuardQ.undef, GuardQ.no (show (true == false) = false from rfl), GuardQ.no (show (false == true) = false from rfl), eql_q, neq_q, lss_q, add_q, sub_q, eqs_q, nes_q, not_q, JoinP.eq, PickP.eq, GuardP.yes, GuardP.undef, GuardP.no (show (true == false) = false from rfl), GuardP.no (show (false == true) = false from rfl), CondP.tt, CondP.ff, add_r, sub_r, mul_r, lss_r, leq_r, gtr_r, geq_r, eql_r, neq_r, eqs_r, nes_r, not_r, nil_r, Bool.not_true, Bool.not_false, if_true, if_false, Bool.false_eq_true, decide_true, decide_false, Nat.zero_add, Bool.and_true, Bool.true_and]
      refine fin u8 (f6.trans (f7.trans f8)) _ _ ?_ ?_
      · rw [hstep1]; simp [PNode.data, DNode.msg?]
      · rw [succ64 (by omega), hstep2]; simp [PNode.data, DNode.tab?, hcm]
  · exact ⟨rfl, e02.trans hext⟩
end Go.Proofs.YtmgleeoecdodjaaDoor.Sh
