/- The walk of the law on finding messages by name. Conditions: lengths up to 2^28. -/
import Derived.Test.YtmgleeoecdodjaaTo
set_option linter.unusedVariables false
set_option linter.unusedSimpArgs false
set_option maxRecDepth 10000
namespace Go.Proofs.Ytmgleeoecdodjaa.Sh
open Go Go.V Go.RowKit

theorem nodeFinds {m : Mem} {d : Value} {x : DDb} {name : ByteArray} {w : World} (hm : Sub m w) (hd : RDb m d x) (hx : OkDb x) (ht : OkTot x) : Does Try.prog 4 [d, .string name] w (Yes w) := by
  obtain ⟨s, ms, ts, rfl, hs, hms, hts⟩ := hd.h
  have t1 := ht.msgs
  have t2 := ht.tabs
  have t3 := ht.sigs
  have nl := nodes_len x
  obtain ⟨fl, fok⟩ := findMsg_len x.msgs name
  have fok := fok hx.msg
  refine D4 ?_
  unfold S4
  refine r_box fun w1 e1 z1 b1 => ?_
  have b1 : Blk w1 w.heap.size (x.cells s ms ts) 32 := b1
  rw [ldN b1 agg32 (o := 0) rfl]
  refine GoN.does pl6 (list (x := x) (hm.ext e1) hd hx) ?_
  rintro l w2 ⟨e2, ⟨ns, hns, hl, hons⟩, llow⟩
  have nn := len_of_data hns
  have b2 := b1.ext e2
  have e02 := e1.trans e2
  rw [ldN b2 agg32 (o := 0) rfl]
  refine GoN.does pl7 (told (hm.ext e02) hd hx hns hl hons) ?_
  rintro _ w3 ⟨rfl, e3⟩
  have b3 := b2.ext e3
  have e03 := e02.trans e3
  simp only [not_r, Pure.run (p_field (o := 0) fld32_3), ld1 b3 one29 (o := 0 + 7) rfl, ld1 b3 one29 (o := 7) rfl, JoinP.eq, PickP.eq, GuardP.yes, GuardP.undef, GuardP.no (show (true == false) = false from rfl), GuardP.no (show (false == true) = false from rfl), CondP.tt, CondP.ff, add_r, sub_r, mul_r, lss_r, leq_r, gtr_r, geq_r, eql_r, neq_r, eqs_r, nes_r, not_r, nil_r, Bool.not_true, Bool.not_false, if_true, if_false, Bool.false_eq_true, decide_true, decide_false, Nat.zero_add, Bool.and_true, Bool.true_and]
  refine GoN.does pl11 (refFind (name := name) (hm.ext e03) hms (by omega)) ?_
  rintro _ w4 ⟨uw, rfl, hsw, e4⟩
  rw [Pure.run p_ext_0, Pure.run p_ext_1]
  have ouw := one_sl hsw
  refine r_alloc zero62 fun w5 e5 z5 b5 => ?_
  refine r_store size62 (l := (findMsg x.msgs name).2.pre ++ [uw]) rfl rfl (one_snoc (one_msgpre _) ouw) b5 (by decide) fun w6 c6 b6 => ?_
  have bw : Blk w6 w4.heap.size ((findMsg x.msgs name).2.pre ++ [uw]) 62 := b6
  have e36 : Ext w3 w6 := (e4.trans (e5.chg c6 (Nat.le_refl _)))
  have hl6 := (hl.ext e3).ext e36
  have ho6 := (hons.keep (.ext e3 []) (by simp) (by simp) (by simp)).keep (.ext e36 []) (by simp) (by simp) (by simp)
  refine GoN.does pl12 (nodeFind (xs := x.msgs) (name := name) hl6 ho6 (by rw [hns]; exact nodes_msgs x) hx.msg (by omega)) ?_
  rintro _ w7 ⟨u1, tv1, rfl, e7, o7⟩
  rw [Pure.run p_ext_0, Pure.run p_ext_1]
  obtain ⟨ou1, _⟩ := o7.own.one
  refine r_alloc zero62 fun w8 e8 z8 b8 => ?_
  refine r_store size62 (l := (findMsg x.msgs name).2.pre ++ [u1]) rfl rfl (one_snoc (one_msgpre _) ou1) b8 (by decide) fun w9 c9 b9 => ?_
  have bg : Blk w9 w7.heap.size ((findMsg x.msgs name).2.pre ++ [u1]) 62 := b9
  have e79 : Ext w7 w9 := e8.chg c9 (Nat.le_refl _)
  have e69 := e7.trans e79
  refine GoN.does pl12 (nodeFind (xs := x.msgs) (name := name) (hl6.ext e69) (ho6.keep (.ext e69 []) (by simp) (by simp) (by simp)) (by rw [hns]; exact nodes_msgs x) hx.msg (by omega)) ?_
  rintro _ w10 ⟨u2, tv2, rfl, e10, o10⟩
  rw [Pure.run p_ext_0, Pure.run p_ext_1]
  obtain ⟨ou2, _⟩ := o10.own.one
  refine r_alloc zero62 fun w11 e11 z11 b11 => ?_
  refine r_store size62 (l := (findMsg x.msgs name).2.pre ++ [u2]) rfl rfl (one_snoc (one_msgpre _) ou2) b11 (by decide) fun w12 c12 b12 => ?_
  have ba : Blk w12 w10.heap.size ((findMsg x.msgs name).2.pre ++ [u2]) 62 := b12
  have e1012 : Ext w10 w12 := e11.chg c12 (Nat.le_refl _)
  have e912 := e10.trans e1012
  have bg := bg.ext e912
  have bw := bw.ext (e69.trans e912)
  have o7 := OMsg.ext o7 (e79.trans e912)
  have o10 := OMsg.ext o10 e1012
  have e312 := e36.trans (e69.trans e912)
  have hm12 := (hm.ext e03).ext e312
  simp only [neb_r, ldN bg agg62 (o := 0) rfl, ldN bw agg62 (o := 0) rfl, JoinP.eq, PickP.eq, GuardP.yes, GuardP.undef, GuardP.no (show (true == false) = false from rfl), GuardP.no (show (false == true) = false from rfl), CondP.tt, CondP.ff, add_r, sub_r, mul_r, lss_r, leq_r, gtr_r, geq_r, eql_r, neq_r, eqs_r, nes_r, not_r, nil_r, Bool.not_true, Bool.not_false, if_true, if_false, Bool.false_eq_true, decide_true, decide_false, Nat.zero_add, Bool.and_true, Bool.true_and]
  refine GoN.does pl13 (sameMessage (x := (findMsg x.msgs name).2) (Sub.self w12) hm12 (OMsg.sigs o7) hsw fok) ?_
  rintro _ w13 ⟨rfl, e13⟩
  simp only [not_r, ldN (ba.ext e13) agg62 (o := 0) rfl, ldN (bw.ext e13) agg62 (o := 0) rfl, JoinP.eq, PickP.eq, GuardP.yes, GuardP.undef, GuardP.no (show (true == false) = false from rfl), GuardP.no (show (false == true) = false from rfl), CondP.tt, CondP.ff, add_r, sub_r, mul_r, lss_r, leq_r, gtr_r, geq_r, eql_r, neq_r, eqs_r, nes_r, not_r, nil_r, Bool.not_true, Bool.not_false, if_true, if_false, Bool.false_eq_true, decide_true, decide_false, Nat.zero_add, Bool.and_true, Bool.true_and]
  refine GoN.does pl13 (sameMessage (x := (findMsg x.msgs name).2) (Sub.self w13) (hm12.ext e13) (OMsg.sigs (OMsg.ext o10 e13)) hsw fok) ?_
  rintro _ w14 ⟨rfl, e14⟩
  have e1214 := e13.trans e14
  have ba := ba.ext e1214
  have bg := bg.ext e1214
  have o7 := OMsg.ext o7 e1214
  have o10 := OMsg.ext o10 e1214
  try simp only [not_r, JoinP.eq, PickP.eq, GuardP.yes, GuardP.undef, GuardP.no (show (true == false) = false from rfl), GuardP.no (show (false == true) = false from rfl), CondP.tt, CondP.ff, add_r, sub_r, mul_r, lss_r, leq_r, gtr_r, geq_r, eql_r, neq_r, eqs_r, nes_r, not_r, nil_r, Bool.not_true, Bool.not_false, if_true, if_false, Bool.false_eq_true, decide_true, decide_false, Nat.zero_add, Bool.and_true, Bool.true_and]
  refine r_alloc zBook fun w15 e15 z15 b15 => ?_
  have bk0 : BkSt w15 w14.heap.size w6.heap.size w6.heap.size [] [] [] := ⟨⟨_, _, _, b15, Own.nil _ _ _, Own.nil _ _ _, Own.nil _ _ _, fun g h => by simp [Value.ownBlock] at h, fun g h => by simp [Value.ownBlock] at h, fun g h => by simp [Value.ownBlock] at h⟩,
    fun j v h => by simp at h, fun j v h => by simp at h, fun j v h => by simp at h, Nat.le_refl _, Nat.le_refl _, Nat.le_refl _⟩
  have bg := bg.ext e15
  have ba := ba.ext e15
  have o7 := OMsg.ext o7 e15
  have o10 := OMsg.ext o10 e15
  have l7 := o7.len
  have l10 := o10.len
  rw [ldN bg agg62 (o := 0) rfl]
  refine GoN.does pl14 (bookMessage (x := (findMsg x.msgs name).2) bk0.book o7 fok (by simp; omega) (by simp)) ?_
  intro _ w16 k16
  have bk1 := bk0.push o7 fok (Nat.le_refl _) k16
  have ba := k16.keep.blk _ _ _ (by decide) ba
  have o10 := OMsg.keep o10 k16.keep (by decide) (by decide)
  rw [ldN ba agg62 (o := 0) rfl]
  refine GoN.does pl14 (bookMessage (x := (findMsg x.msgs name).2) bk1.book o10 fok (by simp; omega) (by simp)) ?_
  intro _ w17 k17
  have bk2 := bk1.push o10 fok e79.size k17
  have e315 : Ext w3 w15 := (e312.trans e1214).trans e15
  have k1517 := k16.keep.trans k17.keep
  have f1517 := k16.below.trans k17.below
  have b15d := b3.ext e315
  have sz1012 := e1012.size
  have sz1214 := e1214.size
  have hlen2 : ([] ++ tv1 ++ tv2).length = 2 * (findMsg x.msgs name).2.sigs.length := by simp [l7, l10]; omega
  have hlen3 : ([] ++ [u1] ++ [u2]).length = 2 := rfl
  generalize ([] ++ tv1 ++ tv2) = ts2 at bk2 hlen2
  generalize ([] ++ [u1] ++ [u2]) = ss2 at bk2 hlen3
  try simp only [JoinP.eq]
  have e015 := e03.trans e315
  have e06 := e03.trans e36
  have sz06 := e06.size
  have sz6 : w6.heap.size ≤ w14.heap.size := by have := e69.size; have := e912.size; omega
  refine LoopP.of3 (fun t4 nn i w' => ∃ (k : Nat) (ts ss : List Value) (hi : Nat), k ≤ ns.length ∧ i = .int .i64 k ∧ nn = .int .i64 (((x.nodes.take k).filterMap DNode.msg?).length : Nat) ∧ BkSt w' w14.heap.size w6.heap.size hi ts [] ss ∧ hi ≤ w'.heap.size ∧ Below w14.heap.size w15 w' ∧ Keep BT w15 w'
      ∧ ts.length = 2 * (findMsg x.msgs name).2.sigs.length + sumSigs ((x.nodes.take k).filterMap DNode.msg?) ∧ ss.length = 2 + ((x.nodes.take k).filterMap DNode.msg?).length) (fun _ _ i _ => ns.length - (intOf i).toNat)
    ⟨0, ts2, ss2, w10.heap.size, Nat.zero_le _, rfl, rfl, bk2, by have := k1517.size; have := e15.size; omega, f1517, k1517, by simp [sumSigs, hlen2], by simp [hlen3]⟩ ?_
  rintro t4 nv iv u0 ⟨k, tsl, ssl, hi, hk, rfl, rfl, hbk, hhi, hbel, hkeep, hl1, hl2⟩
  have hml : ∀ k, ((x.nodes.take k).filterMap DNode.msg?).length ≤ x.msgs.length ∧ sumSigs ((x.nodes.take k).filterMap DNode.msg?) ≤ sumSigs x.msgs := by
    intro k
    have h1 : x.msgs = (x.nodes.take k).filterMap DNode.msg? ++ (x.nodes.drop k).filterMap DNode.msg? := by rw [← List.filterMap_append, List.take_append_drop, nodes_msgs]
    refine ⟨?_, ?_⟩
    · conv => rhs; rw [h1, List.length_append]
      exact Nat.le_add_right _ _
    · conv => rhs; rw [h1, sumSigs_append]
      exact Nat.le_add_right _ _
  have hlu := ((hl6.ext ((e69.trans e912).trans e1214)).ext e15).keepT hkeep (by decide)
  have hou := (ho6.keep (.ext (((e69.trans e912).trans e1214).trans e15) []) (by simp) (by simp) (by simp)).keep hkeep (by decide) (by decide) (by decide)
  have hmu : V.Sub m u0 := (hm.ext e015).below hbel (hm.dom.mono (by omega))
  have hdu := hkeep.blk _ _ _ (by decide) b15d
  obtain ⟨pl, cl, rfl, hcl⟩ := hl.len
  obtain ⟨pm, cm, rfl, hcm⟩ := hms.form
  simp only [Pure.run (p_len sl34.slice), lss_r]
  refine CondP.dec (fun h => ?_) (fun h => ?_)
  · have hk' : k < ns.length := by omega
    obtain ⟨n, hnk⟩ : ∃ n, ns[k]? = some n := ⟨ns[k], by simp [hk']⟩
    have hdn : x.nodes[k]? = some n.data := by rw [← hns, List.getElem?_map, hnk]; rfl
    obtain ⟨a, b, hnode⟩ := hou.get hnk
    have hone := hnode.one
    obtain ⟨g, rfl, hc0⟩ := hlu.cell1 (g := 0) (k := k) (v := n.val) (by rw [List.getElem?_map, hnk]; rfl)
    have pL : Pure Try.prog (Instr.indexAt 34 (.slice (some ⟨g, 0, none⟩) ns.length cl) (.int .i64 (k : Int))) (.pointer (some ⟨g, k, none⟩)) := by
      have := pIdx (b := g) (c := cl) sl34.slice size70 hk'
      simpa using this
    have hstep := filter_step DNode.msg? hdn
    simp only [JoinP.eq]
    rw [Pure.run pL, ldc one70 hc0]
    refine GoN.does pl15 (kindName hone) ?_
    rintro _ u1 ⟨rfl, f1⟩
    have fin : ∀ w' ts' ss' hi' (nn : Value), nn = .int .i64 (((x.nodes.take (k + 1)).filterMap DNode.msg?).length : Nat) → BkSt w' w14.heap.size w6.heap.size hi' ts' [] ss' → hi' ≤ w'.heap.size → Below w14.heap.size w15 w' → Keep BT w15 w' →
        ts'.length = 2 * (findMsg x.msgs name).2.sigs.length + sumSigs ((x.nodes.take (k + 1)).filterMap DNode.msg?) → ss'.length = 2 + ((x.nodes.take (k + 1)).filterMap DNode.msg?).length →
        (∃ (k_1 : Nat) (ts ss : List Value) (hi : Nat), k_1 ≤ ns.length ∧ Value.int .i64 (IntKind.i64.wrap ((k : Int) + 1)) = .int .i64 (k_1 : Nat) ∧ nn = .int .i64 (((x.nodes.take k_1).filterMap DNode.msg?).length : Nat) ∧ BkSt w' w14.heap.size w6.heap.size hi ts [] ss ∧ hi ≤ w'.heap.size ∧ Below w14.heap.size w15 w' ∧ Keep BT w15 w'
          ∧ ts.length = 2 * (findMsg x.msgs name).2.sigs.length + sumSigs ((x.nodes.take k_1).filterMap DNode.msg?) ∧ ss.length = 2 + ((x.nodes.take k_1).filterMap DNode.msg?).length) ∧
        ns.length - (intOf (Value.int .i64 (IntKind.i64.wrap ((k : Int) + 1)))).toNat < ns.length - (intOf (.int .i64 (k : Int))).toNat := by
      intro w' ts' ss' hi' nn h1 h2 h3 h4 h5 h6 h7
      refine ⟨⟨k + 1, ts', ss', hi', by omega, succ64 (by omega), h1, h2, h3, h4, h5, h6, h7⟩, ?_⟩
      rw [succ64 (by omega)]; simp [intOf]; omega
    have hsame : n.data.msg? = none → (x.nodes.take (k + 1)).filterMap DNode.msg? = (x.nodes.take k).filterMap DNode.msg? := fun h => by rw [hstep, h]; simp
    have skip : n.data.msg? = none → _ := fun h => fin u1 tsl ssl hi _ (by rw [hsame h]) (hbk.ext f1) (Nat.le_trans hhi f1.size) (hbel.trans (Below.mono f1 (by have := hbk.book.lt; omega))) (hkeep.trans (.ext f1 _)) (by rw [hsame h]; exact hl1) (by rw [hsame h]; exact hl2)
    cases n with
    | ver y =>
      have hne : decide ((PNode.ver y).data.kname = ⟨#[109, 101, 115, 115, 97, 103, 101]⟩) = false := rfl
      simp only [nes_r, hne, JoinP.eq, PickP.eq, GuardP.yes, GuardP.undef, GuardP.no (show (true == false) = false from rfl), GuardP.no (show (false == true) = false from rfl), CondP.tt, CondP.ff, add_r, sub_r, mul_r, lss_r, leq_r, gtr_r, geq_r, eql_r, neq_r, eqs_r, nes_r, not_r, nil_r, Bool.not_true, Bool.not_false, if_true, if_false, Bool.false_eq_true, decide_true, decide_false, Nat.zero_add, Bool.and_true, Bool.true_and]
      exact skip rfl
    | sta y v =>
      have hne : decide ((PNode.sta y v).data.kname = ⟨#[109, 101, 115, 115, 97, 103, 101]⟩) = false := rfl
      simp only [nes_r, hne, JoinP.eq, PickP.eq, GuardP.yes, GuardP.undef, GuardP.no (show (true == false) = false from rfl), GuardP.no (show (false == true) = false from rfl), CondP.tt, CondP.ff, add_r, sub_r, mul_r, lss_r, leq_r, gtr_r, geq_r, eql_r, neq_r, eqs_r, nes_r, not_r, nil_r, Bool.not_true, Bool.not_false, if_true, if_false, Bool.false_eq_true, decide_true, decide_false, Nat.zero_add, Bool.and_true, Bool.true_and]
      exact skip rfl
    | tab y v =>
      have hne : decide ((PNode.tab y v).data.kname = ⟨#[109, 101, 115, 115, 97, 103, 101]⟩) = false := rfl
      simp only [nes_r, hne, JoinP.eq, PickP.eq, GuardP.yes, GuardP.undef, GuardP.no (show (true == false) = false from rfl), GuardP.no (show (false == true) = false from rfl), CondP.tt, CondP.ff, add_r, sub_r, mul_r, lss_r, leq_r, gtr_r, geq_r, eql_r, neq_r, eqs_r, nes_r, not_r, nil_r, Bool.not_true, Bool.not_false, if_true, if_false, Bool.false_eq_true, decide_true, decide_false, Nat.zero_add, Bool.and_true, Bool.true_and]
      exact skip rfl
    | msg y v tvs =>
      have hne : decide ((PNode.msg y v tvs).data.kname = ⟨#[109, 101, 115, 115, 97, 103, 101]⟩) = true := rfl
      simp only [nes_r, hne, JoinP.eq, PickP.eq, GuardP.yes, GuardP.undef, GuardP.no (show (true == false) = false from rfl), GuardP.no (show (false == true) = false from rfl), CondP.tt, CondP.ff, add_r, sub_r, mul_r, lss_r, leq_r, gtr_r, geq_r, eql_r, neq_r, eqs_r, nes_r, not_r, nil_r, Bool.not_true, Bool.not_false, if_true, if_false, Bool.false_eq_true, decide_true, decide_false, Nat.zero_add, Bool.and_true, Bool.true_and]
      have hym := nodes_msg_ok hx (List.mem_of_getElem? hdn)
      have hyok := hx.msg y hym
      rw [Pure.run pL, ldc one70 (cell_ext hc0 f1)]
      refine GoN.does pl16 (nodeMessage (OMsg.ext hnode f1) hyok) ?_
      rintro _ u2 ⟨uu, tvv, rfl, f2, oo⟩
      obtain ⟨ouu, _⟩ := oo.own.one
      refine r_alloc zero62 fun u3 f3 q3 b3' => ?_
      refine r_store size62 (l := y.pre ++ [uu]) rfl rfl (one_snoc (one_msgpre y) ouu) b3' (by decide) fun u4 c4 q4 => ?_
      have q4 : Blk u4 u2.heap.size (y.pre ++ [uu]) 62 := q4
      have f24 : Ext u2 u4 := f3.chg c4 (Nat.le_refl _)
      intro u5 f5
      have f02 := f1.trans f2
      have f25 := f24.trans f5
      have f05 := f02.trans f25
      have q5 := q4.ext f5
      have oo5 := OMsg.ext oo f25
      have hd5 := hdu.ext f05
      have hy := filter_get DNode.msg? hdn (b := y) rfl
      rw [nodes_msgs] at hy
      have hcnt := hml k
      have hcnt1 := hml (k + 1)
      have hstp : (x.nodes.take (k + 1)).filterMap DNode.msg? = (x.nodes.take k).filterMap DNode.msg? ++ [y] := hstep
      rw [hstp] at hcnt1 fin
      generalize hfl : (x.nodes.take k).filterMap DNode.msg? = fl1 at *
      obtain ⟨bm, om2, cs, rfl, _, hlt, _, hat2, ⟨v2, rfl, hsg⟩⟩ := hms.get hy
      have pM : Pure Try.prog (Instr.indexAt 29 (.slice (some ⟨bm, om2, none⟩) x.msgs.length cm) (.int .i64 (fl1.length : Nat))) (.pointer (some ⟨bm, om2 + fl1.length * 8, none⟩)) := by
        have := p_idx (P := Try.prog) (b := bm) (o := om2) (n := x.msgs.length) (c := cm) (k := .i64) (i := ((fl1.length : Nat) : Int)) sl29.slice size62 (by omega) (by omega)
        simpa using this
      have hge : decide (((x.msgs.length : Nat) : Int) ≤ ((fl1.length : Nat) : Int)) = false := by simp; omega
      simp only [Pure.runQ (p_field (o := 0) fld32_3), ld1Q hd5 one29 (o := 0 + 7) rfl, ld1Q hd5 one29 (o := 7) rfl, Pure.runQ (p_len sl29.slice), Pure.runQ p_geq, hge, ldNQ q5 agg62 (o := 0) rfl, Pure.runQ pM, PickQ.eq, GuardQ.yes, GuardQ.undef, GuardQ.no (show (true == false) = false from rfl), GuardQ.no (show (false == true) = false from rfl), eql_q, neq_q, lss_q, add_q, sub_q, eqs_q, nes_q, not_q, JoinP.eq, PickP.eq, GuardP.yes, GuardP.undef, GuardP.no (show (true == false) = false from rfl), GuardP.no (show (false == true) = false from rfl), CondP.tt, CondP.ff, add_r, sub_r, mul_r, lss_r, leq_r, gtr_r, geq_r, eql_r, neq_r, eqs_r, nes_r, not_r, nil_r, Bool.not_true, Bool.not_false, if_true, if_false, Bool.false_eq_true, decide_true, decide_false, Nat.zero_add, Bool.and_true, Bool.true_and]
      refine q_loadN agg62 rfl (hat2 u5 (hmu.ext f05)) ?_
      refine GoN.does pl13 (sameMessage (x := y) (Sub.self u5) (hmu.ext f05) (OMsg.sigs oo5) hsg hyok) ?_
      rintro _ u6 ⟨rfl, f6⟩
      refine ⟨f6, ?_⟩
      simp only [PickQ.eq, GuardQ.yes, GuardQ.undef, GuardQ.no (show (true == false) = false from rfl), GuardQ.no (show (false == true) = false from rfl), eql_q, neq_q, lss_q, add_q, sub_q, eqs_q, nes_q, not_q, JoinP.eq, PickP.eq, GuardP.yes, GuardP.undef, GuardP.no (show (true == false) = false from rfl), GuardP.no (show (false == true) = false from rfl), CondP.tt, CondP.ff, add_r, sub_r, mul_r, lss_r, leq_r, gtr_r, geq_r, eql_r, neq_r, eqs_r, nes_r, not_r, nil_r, Bool.not_true, Bool.not_false, if_true, if_false, Bool.false_eq_true, decide_true, decide_false, Nat.zero_add, Bool.and_true, Bool.true_and]
      rw [ldN (q5.ext f6) agg62 (o := 0) rfl]
      have f06 := f05.trans f6
      have bk6 := hbk.ext f06
      have oo6 := OMsg.ext oo5 f6
      have lo6 := oo6.len
      have hsl : sumSigs (fl1 ++ [y]) = sumSigs fl1 + y.sigs.length := by rw [sumSigs_append]; simp [sumSigs]
      rw [hsl] at hcnt1
      refine GoN.does pl14 (bookMessage (x := y) bk6.book oo6 hyok (by omega) (by omega)) ?_
      intro _ u7 k7
      try simp only [add_r]
      have kblt := hbk.book.lt
      have sz01 := f1.size
      have sz26 := (f25.trans f6).size
      refine fin u7 _ _ u2.heap.size _ ?_ (bk6.push oo6 hyok (by omega) k7) (by have := k7.keep.size; omega) ((hbel.trans (Below.mono f06 (by omega))).trans k7.below) ((hkeep.trans (.ext f06 _)).trans k7.keep) ?_ ?_
      · rw [List.length_append, succ64 (by omega)]; rfl
      · rw [hsl, List.length_append]; omega
      · simp only [List.length_append, List.length_cons, List.length_nil]; omega
  · obtain rfl : k = ns.length := by omega
    have htk : x.nodes.take ns.length = x.nodes := List.take_of_length_le (by omega)
    rw [htk, nodes_msgs] at hl1 hl2 ⊢
    simp only [Pure.run (p_field (o := 0) fld32_3), ld1 hdu one29 (o := 0 + 7) rfl, ld1 hdu one29 (o := 7) rfl, Pure.run (p_len sl29.slice), JoinP.eq, PickP.eq, GuardP.yes, GuardP.undef, GuardP.no (show (true == false) = false from rfl), GuardP.no (show (false == true) = false from rfl), CondP.tt, CondP.ff, add_r, sub_r, mul_r, lss_r, leq_r, gtr_r, geq_r, eql_r, neq_r, eqs_r, nes_r, not_r, nil_r, Bool.not_true, Bool.not_false, if_true, if_false, Bool.false_eq_true, decide_true, decide_false, Nat.zero_add, Bool.and_true, Bool.true_and]
    have kblt := hbk.book.lt
    refine GoN.does pl10 (hbk.apart (by omega) (by omega) (by simp) (by omega)) ?_
    rintro _ u1 ⟨rfl, ab, ak⟩
    have hd1 := ak.blk _ _ _ (by decide) hdu
    simp only [ldN hd1 agg32 (o := 0) rfl, JoinP.eq, PickP.eq, GuardP.yes, GuardP.undef, GuardP.no (show (true == false) = false from rfl), GuardP.no (show (false == true) = false from rfl), CondP.tt, CondP.ff, add_r, sub_r, mul_r, lss_r, leq_r, gtr_r, geq_r, eql_r, neq_r, eqs_r, nes_r, not_r, nil_r, Bool.not_true, Bool.not_false, if_true, if_false, Bool.false_eq_true, decide_true, decide_false, Nat.zero_add, Bool.and_true, Bool.true_and]
    refine GoN.does pl7 (told (x := x) (ns := ns) (hmu.below ab (hm.dom.mono (by omega))) hd hx hns (hlu.keepT ak (by decide)) (hou.below ab (by have := (hl6.ext (Ext.refl _)); have := e36.size; have := e3.size; omega))) ?_
    rintro _ u2 ⟨rfl, f2⟩
    try simp only [JoinP.eq, PickP.eq, GuardP.yes, GuardP.undef, GuardP.no (show (true == false) = false from rfl), GuardP.no (show (false == true) = false from rfl), CondP.tt, CondP.ff, add_r, sub_r, mul_r, lss_r, leq_r, gtr_r, geq_r, eql_r, neq_r, eqs_r, nes_r, not_r, nil_r, Bool.not_true, Bool.not_false, if_true, if_false, Bool.false_eq_true, decide_true, decide_false, Nat.zero_add, Bool.and_true, Bool.true_and]
    refine ⟨rfl, ?_⟩
    have szu := ab.size
    have h1 : Below w.heap.size w u0 := Below.trans e015 (Below.mono hbel (by omega))
    exact (h1.trans (Below.mono ab (by omega))).trans (Below.mono f2 (by omega))
end Go.Proofs.Ytmgleeoecdodjaa.Sh
