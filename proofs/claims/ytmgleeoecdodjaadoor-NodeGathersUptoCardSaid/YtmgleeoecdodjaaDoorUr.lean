/- The walk of the law on what parts make. Conditions: lengths up to 2^20; the library's variable on the type error as laid. -/
import Derived.Test.YtmgleeoecdodjaaDoorUq
set_option linter.unusedVariables false
set_option linter.unusedSimpArgs false
set_option maxRecDepth 10000
namespace Go.Proofs.YtmgleeoecdodjaaDoor.Sh
open Go Go.V Go.RowKit

theorem gBuild (w : World) : (Instr.build 32 #[]).run Tryd.prog w = .ok (zDb.agg (.slice none 0 0) (.slice none 0 0) (.slice none 0 0)) w := bDb0 w
theorem x_0 (a b : Value) : Pure Tryd.prog (Instr.extract (.tuple #[a, b]) 0) a := p_ext rfl
set_option maxHeartbeats 2000000 in
theorem nodeGathers {m : Mem} {d pv : Value} {x : DDb} {ps : List Int} {w : World} (hm : Sub m w) (hd : RDb m d x) (hx : OkDb x) (ht : OkTot x) (hp : Ints m pv ps) (hps : ps.length ≤ 1073741824) (hg : w.cell? ⟨0, 0, none⟩ = some (rty 42)) :
    Does Tryd.prog 3 [d, pv] w (Yes w) := by
  obtain ⟨s, ms, ts, rfl, hs, hms, hts⟩ := hd.h
  have nl := nodes_len x
  have t1 := ht.msgs
  have t2 := ht.tabs
  obtain ⟨pp, cp, rfl, hpp⟩ := hp.form
  refine D3 ?_
  unfold S3
  refine r_box fun w1 e1 z1 b1 => ?_
  have b1 : Blk w1 w.heap.size (x.cells s ms ts) 32 := b1
  intro w2 e2
  have b2 := b1.ext e2
  have e02 := e1.trans e2
  rw [Pure.runQ (p_len sl33.slice), gtr_q]
  by_cases hgt : (200 : Int) < (ps.length : Int)
  · rw [decide_eq_true hgt]
    simp only [GuardQ.no (show (true == false) = false from rfl), GuardP.no (show (true == false) = false from rfl)]
    refine ⟨Ext.refl _, Ext.refl _, ?_⟩
    simp only [PickQ.eq, if_true, CondP.tt]
    simp only [Pure.run (p_len sl33.slice), gtr_r]
    rw [decide_eq_true hgt]
    exact ⟨rfl, e02⟩
  · rw [decide_eq_false hgt]
    have hp200 : ps.length ≤ 200 := by omega
    simp only [GuardQ.yes, GuardP.yes]
    refine q_loadN agg32 (l := x.cells s ms ts) rfl b2.at ?_
    refine GoN.does pl5 (list (x := x) (hm.ext e02) hd hx) ?_
    rintro al w3 ⟨e3, ⟨ns0, hns0, hal0, ho0⟩, _⟩
    refine ⟨e3, ?_⟩
    refine q_loadN agg32 (l := x.cells s ms ts) rfl b2.at ?_
    have e03 := e02.trans e3
    refine GoN.does pl4 (told (hm.ext e03) hd hx hns0 hal0 ho0) ?_
    rintro _ w4 ⟨rfl, e4⟩
    refine ⟨e3.trans e4, ?_⟩
    have e04 := e03.trans e4
    have b4 := b2.ext (e3.trans e4)
    clear ho0 hal0 hns0 ns0
    simp only [not_q, PickQ.eq, Bool.false_eq_true, if_false, Bool.not_true, CondP.ff]
    rw [ldN b4 agg32 (o := 0) rfl]
    refine GoN.does pl6 (chosen (x := x) (hm.ext e04) hd hx hp hp200) ?_
    rintro _ w5 ⟨e5, ns, sel, l, kv, v, rfl, hns, ho, hsl, hsel, hl, hk, hR⟩
    have e05 := e04.trans e5
    simp only [Pure.run (x3_0 _ _ _), Pure.run (x3_1 _ _ _), Pure.run (x3_2 _ _ _)]
    have hselx : ∀ n ∈ prt sel, n ∈ x.nodes := by
      intro n hn
      unfold prt at hn
      obtain ⟨p, hp1, rfl⟩ := List.mem_map.1 hn
      obtain ⟨o, ho1, ho2⟩ := List.mem_filterMap.1 hp1
      simp only [id] at ho2
      subst ho2
      rw [← hns]; exact List.mem_map.2 ⟨p, hsel p ho1, rfl⟩
    obtain ⟨s0, m0, t0, rfl, q1, q2, q3⟩ := hR.h
    refine r_alloc zero32 fun w6 e6 z6 b6 => ?_
    refine r_store size32 (l := (gDb (prt sel)).cells s0 m0 t0) rfl rfl (one_dbc _ (one_sl q1) (one_sl q2) (one_sl q3)) b6 (by decide) fun w7 c7 b7 => ?_
    have b7 : Blk w7 w5.heap.size ((gDb (prt sel)).cells s0 m0 t0) 32 := b7
    have e57 : Ext w5 w7 := e6.chg c7 (Nat.le_refl _)
    have hk7 := hk.ext e57
    refine GoN.does pl7 (order (ks := sel.map okind) (by simpa using hk7) (by simp; omega) (fun c hc => by
      obtain ⟨o, _, rfl⟩ := List.mem_map.1 hc
      cases o with
      | none => exact Int.le_refl _
      | some n => cases n <;> simp [okind, PNode.data, DNode.kind])) ?_
    rintro _ w8 ⟨⟨no, i, hord, rfl⟩, e8⟩
    have e58 := e57.trans e8
    have b8 := b7.ext e8
    simp only [Pure.run (x_0 _ _), Pure.run (x2_1 _ _), neq_r]
    have hS5 := Sub.self w5
    refine CondP.via0 (fun w' => Ext w5 w' ∧ ∃ s1 m1 t1, Blk w' w5.heap.size ((gX no sel).cells s1 m1 t1) 32 ∧ RDb (memW w5) ((gX no sel).agg s1 m1 t1) (gX no sel)) ?_ (fun h K hK => ?_) (fun h K hK => ?_)
    rotate_left
    · have hz : ¬ no = 0 := by simpa using h
      rw [Run.eq (gBuild _)]
      refine r_store size32 (l := zDb.cells (.slice none 0 0) (.slice none 0 0) (.slice none 0 0)) rfl rfl (one_dbc _ rfl rfl rfl) b8 (show 0 + 9 ≤ 9 by decide) fun w9 c9 b9 => hK _ ?_
      have b9 : Blk w9 w5.heap.size (zDb.cells (.slice none 0 0) (.slice none 0 0) (.slice none 0 0)) 32 := b9
      refine ⟨e58.chg c9 (Nat.le_refl _), .slice none 0 0, .slice none 0 0, .slice none 0 0, by simp only [gX, hz, if_false]; exact b9, ?_⟩
      simp only [gX, hz, if_false]
      exact ⟨_, _, _, rfl, Sl.nil _ _ _ _ _, Sl.nil _ _ _ _ _, Sl.nil _ _ _ _ _⟩
    · have hz : no = 0 := by simpa using h
      exact hK _ ⟨e58, s0, m0, t0, by simp only [gX, hz, if_true]; exact b8, by simp only [gX, hz, if_true]; exact ⟨_, _, _, rfl, q1, q2, q3⟩⟩
    clear b6 b7 b8 q1 q2 q3 hR z6 c7
    rintro w9 ⟨e59, s1, m1, t1', bw, hRw⟩
    obtain ⟨q1, q2, q3⟩ : Texts (memW w5) s1 (gX no sel).sta.names ∧ Msgs (memW w5) m1 (gX no sel).msgs ∧ Tabs (memW w5) t1' (gX no sel).tabs := by
      obtain ⟨a, b, c, h1, h2, h3, h4⟩ := hRw.h
      injection h1 with h1
      have := congrArg Array.toList h1
      simp [DDb.agg, DVer.cells, DSta.pre] at this
      obtain ⟨rfl, rfl, rfl⟩ := this
      exact ⟨h2, h3, h4⟩
    obtain ⟨hX1, hX2, hX3, hX4⟩ := gX_ok hx ht (no := no) (sel := sel) hselx (by omega)
    have e09 := e05.trans e59
    have hnode : ∀ n, some n ∈ sel → OkP n := by
      intro n hn
      have h1 := hsel n hn
      have h2 : n.data ∈ x.nodes := by rw [← hns]; exact List.mem_map.2 ⟨n, h1, rfl⟩
      cases n with
      | ver y => trivial
      | sta y u => have := nodes_sta h2; subst this; exact hx.names
      | msg y u tvs => exact hx.msg y (nodes_msg_ok hx h2)
      | tab y u => exact hx.tab y (by unfold DDb.nodes at h2; split at h2 <;> simp [PNode.data] at h2 <;> exact h2)
    have hmem9 : ∀ n, some n ∈ sel → (∃ a b, ONode w9 a b n) ∧ OkP n := fun n hn => by
      obtain ⟨a, b, h⟩ := ONodes.mem ho (hsel n hn)
      exact ⟨⟨a, b, h.keep (.ext e59 []) (by simp) (by simp) (by simp)⟩, hnode n hn⟩
    have hl9 := hl.ext e59
    -- the first
    refine GoN.does pl8 (gather hl9 (by omega) hmem9) ?_
    intro _ w10 hG1
    obtain ⟨e10, loA, sa, ma, ta, qa, ra, rfl, hloA, hgA⟩ := hG1.get hord
    obtain ⟨oa1, _⟩ := hgA.names.one
    obtain ⟨oa2, _⟩ := hgA.oms.one
    obtain ⟨oa3, _⟩ := hgA.ots.one
    simp only [Pure.run (x_0 _ _), Pure.run (x2_1 _ _)]
    refine r_alloc zero32 fun w11 e11 z11 b11 => ?_
    refine r_store size32 (l := (gX no sel).cells sa ma ta) rfl rfl (one_dbc _ oa1 oa2 oa3) b11 (by decide) fun w12 c12 b12 => ?_
    have b12 : Blk w12 w10.heap.size ((gX no sel).cells sa ma ta) 32 := b12
    have e1012 : Ext w10 w12 := e11.chg c12 (Nat.le_refl _)
    have e912 := e10.trans e1012
    clear b11 z11 c12 hG1
    -- the second
    refine GoN.does pl8 (gather (hl9.ext e912) (by omega) (fun n hn => by
      obtain ⟨⟨a, b, h⟩, hk⟩ := hmem9 n hn
      exact ⟨⟨a, b, h.keep (.ext e912 []) (by simp) (by simp) (by simp)⟩, hk⟩)) ?_
    intro _ w13 hG2
    obtain ⟨e13, loB, sb, mb, tb, qb, rb, rfl, hloB, hgB⟩ := hG2.get hord
    obtain ⟨ob1, _⟩ := hgB.names.one
    obtain ⟨ob2, _⟩ := hgB.oms.one
    obtain ⟨ob3, _⟩ := hgB.ots.one
    simp only [Pure.run (x_0 _ _), Pure.run (x2_1 _ _)]
    refine r_alloc zero32 fun w14 e14 z14 b14 => ?_
    refine r_store size32 (l := (gX no sel).cells sb mb tb) rfl rfl (one_dbc _ ob1 ob2 ob3) b14 (by decide) fun w15 c15 b15 => ?_
    have b15 : Blk w15 w13.heap.size ((gX no sel).cells sb mb tb) 32 := b15
    have e1315 : Ext w13 w15 := e14.chg c15 (Nat.le_refl _)
    clear b14 z14 c15 hG2
    have e1215 := e13.trans e1315
    have e1015 := e1012.trans e1215
    have e915 := e10.trans e1015
    have e015 := e09.trans e915
    have ba15 := b12.ext e1215
    have bw15 := bw.ext e915
    have hg15 := cell_ext hg e015
    -- what is told of the errors and of the databases
    refine GoN.does pl9 (atX hord hg15) ?_
    rintro _ w16 ⟨rfl, e16⟩
    simp only [not_r, JoinP.eq, PickP.eq, GuardP.yes, GuardP.undef, GuardP.no (show (true == false) = false from rfl), GuardP.no (show (false == true) = false from rfl), CondP.tt, CondP.ff, add_r, sub_r, mul_r, lss_r, leq_r, gtr_r, geq_r, eql_r, neq_r, eqs_r, nes_r, not_r, nil_r, Bool.not_true, Bool.not_false, if_true, if_false, Bool.false_eq_true, decide_true, decide_false, Nat.zero_add, Bool.and_true, Bool.true_and]
    refine GoN.does pl9 (atX hord (cell_ext hg15 e16)) ?_
    rintro _ w17 ⟨rfl, e17⟩
    have e1517 := e16.trans e17
    have hSw17 : V.Sub (memW w5) w17 := ((hS5.ext e59).ext e915).ext e1517
    simp only [not_r, ldN (ba15.ext e1517) agg32 (o := 0) rfl, ldN (bw15.ext e1517) agg32 (o := 0) rfl, JoinP.eq, PickP.eq, GuardP.yes, GuardP.undef, GuardP.no (show (true == false) = false from rfl), GuardP.no (show (false == true) = false from rfl), CondP.tt, CondP.ff, add_r, sub_r, mul_r, lss_r, leq_r, gtr_r, geq_r, eql_r, neq_r, eqs_r, nes_r, not_r, nil_r, Bool.not_true, Bool.not_false, if_true, if_false, Bool.false_eq_true, decide_true, decide_false, Nat.zero_add, Bool.and_true, Bool.true_and]
    refine GoN.does pl10 (sameDatabase (x := gX no sel) (Sub.self w17) hSw17 ((hgA.ext e1015).ext e1517).rdb hRw hX1) ?_
    rintro _ w18 ⟨rfl, e18⟩
    have e1518 := e1517.trans e18
    simp only [not_r, ldN (b15.ext e1518) agg32 (o := 0) rfl, ldN (bw15.ext e1518) agg32 (o := 0) rfl, JoinP.eq, PickP.eq, GuardP.yes, GuardP.undef, GuardP.no (show (true == false) = false from rfl), GuardP.no (show (false == true) = false from rfl), CondP.tt, CondP.ff, add_r, sub_r, mul_r, lss_r, leq_r, gtr_r, geq_r, eql_r, neq_r, eqs_r, nes_r, not_r, nil_r, Bool.not_true, Bool.not_false, if_true, if_false, Bool.false_eq_true, decide_true, decide_false, Nat.zero_add, Bool.and_true, Bool.true_and]
    refine GoN.does pl10 (sameDatabase (x := gX no sel) (Sub.self w18) (hSw17.ext e18) ((hgB.ext e1315).ext e1518).rdb hRw hX1) ?_
    rintro _ w19 ⟨rfl, e19⟩
    have e1519 := e1518.trans e19
    try simp only [not_r, JoinP.eq, PickP.eq, GuardP.yes, GuardP.undef, GuardP.no (show (true == false) = false from rfl), GuardP.no (show (false == true) = false from rfl), CondP.tt, CondP.ff, add_r, sub_r, mul_r, lss_r, leq_r, gtr_r, geq_r, eql_r, neq_r, eqs_r, nes_r, not_r, nil_r, Bool.not_true, Bool.not_false, if_true, if_false, Bool.false_eq_true, decide_true, decide_false, Nat.zero_add, Bool.and_true, Bool.true_and]
    -- what each is called
    have e919 := e915.trans e1519
    have hl19 := hl9.ext e919
    have hk19 := (hk.ext e59).ext e919
    obtain ⟨pl, cl, rfl, hpl⟩ := hl.len
    obtain ⟨pk, ck, rfl, hpk⟩ := hk.len
    refine LoopP.of2 (fun _ i w' => ∃ j : Nat, j ≤ sel.length ∧ i = .int .i64 j ∧ Ext w19 w') (fun _ i _ => sel.length - (intOf i).toNat) ⟨0, Nat.zero_le _, rfl, Ext.refl _⟩ ?_
    rintro t4 _ w20 ⟨j, hj, rfl, x20⟩
    simp only [Pure.run (p_len sl35.slice), lss_r]
    refine CondP.dec (fun h => ?_) (fun h => ?_)
    · have hj' : j < sel.length := by omega
      obtain ⟨o, hoj⟩ : ∃ o, sel[j]? = some o := ⟨sel[j], by simp [hj']⟩
      have hone : oone o := by
        cases o with
        | none => trivial
        | some n => obtain ⟨⟨a, b, hno⟩, _⟩ := hmem9 n (List.mem_of_getElem? hoj); exact hno.one
      try simp only [JoinP.eq]
      intro w21 x21
      have x1921 := x20.trans x21
      obtain ⟨gl, rfl, hcl⟩ := (hl19.ext x1921).cell1 (g := 0) (k := j) (v := oval o) (by rw [List.getElem?_map, hoj]; rfl)
      obtain ⟨gk, rfl, hck⟩ := (hk19.ext x1921).cell1 (g := 0) (k := j) (v := .int .i64 (okind o)) (by rw [List.getElem?_map, List.getElem?_map, hoj]; rfl)
      have pL : Pure Tryd.prog (Instr.indexAt 35 (.slice (some ⟨gl, 0, none⟩) sel.length cl) (.int .i64 (j : Int))) (.pointer (some ⟨gl, j, none⟩)) := by
        have := pIdx (b := gl) (c := cl) sl35.slice size49 hj'
        simpa using this
      have pK : Pure Tryd.prog (Instr.indexAt 33 (.slice (some ⟨gk, 0, none⟩) sel.length ck) (.int .i64 (j : Int))) (.pointer (some ⟨gk, j, none⟩)) := by
        have := pIdx (b := gk) (c := ck) sl33.slice size3 hj'
        simpa using this
      rw [Pure.runQ pL, ldcQ one49 hcl]
      refine GoN.does pl11 (kindNameO hone) ?_
      rintro _ w22 ⟨rfl, x22⟩
      refine ⟨x22, ?_⟩
      rw [Pure.runQ pK, ldcQ one3 hck]
      refine GoN.does pl12 (refName o w22) ?_
      rintro _ w23 ⟨rfl, rfl⟩
      refine ⟨x22, ?_⟩
      simp only [nes_q, decide_true, Bool.not_true, CondP.ff, add_r]
      refine ⟨⟨j + 1, by omega, succ64 (by omega), x1921.trans x22⟩, ?_⟩
      rw [succ64 (by omega)]; simp [intOf]; omega
    · clear h
      have e1520 := e1519.trans x20
      have e920 := e915.trans e1520
      -- the book
      refine r_alloc zBook5 fun w21 e21 z21 b21 => ?_
      have e1521 := e1520.trans e21
      have ba21 := ba15.ext e1521
      have bb21 := b15.ext e1521
      have bw21 := bw15.ext e1521
      have bk0 : BookAt w21 w20.heap.size [] [] [] [] [] := ⟨_, _, _, _, _, b21, Own.nil _ _ _, Own.nil _ _ _, Own.nil _ _ _, Own.nil _ _ _, Own.nil _ _ _, fun g h => by simp [Value.ownBlock] at h, fun g h => by simp [Value.ownBlock] at h, fun g h => by simp [Value.ownBlock] at h, fun g h => by simp [Value.ownBlock] at h, fun g h => by simp [Value.ownBlock] at h⟩
      have hgA21 := (hgA.ext e1015).ext e1521
      have hgB21 := (hgB.ext e1315).ext e1521
      obtain ⟨ca1, ca2, ca3⟩ := hgA.cnt hX3 hX4 hX2
      obtain ⟨cb1, cb2, cb3⟩ := hgB.cnt hX3 hX4 hX2
      have okA : ∀ q ∈ qa, OkMsg q.1 := fun q hq => hX1.msg q.1 (by rw [← hgA.msgs]; exact List.mem_map.2 ⟨q, hq, rfl⟩)
      have okB : ∀ q ∈ qb, OkMsg q.1 := fun q hq => hX1.msg q.1 (by rw [← hgB.msgs]; exact List.mem_map.2 ⟨q, hq, rfl⟩)
      rw [ldN ba21 agg32 (o := 0) rfl]
      refine GoN.does pl13 (bookDatabase bk0 hgA21 okA (by omega) (by omega) (by simp only [List.length_nil]; omega) (by simp) (by simp) (by simp) (by simp)) ?_
      intro _ w22 h22
      rw [ldN (h22.keep.blk _ _ _ (by decide) bb21) agg32 (o := 0) rfl]
      refine GoN.does pl13 (bookDatabase h22.book (hgB21.keepT h22.keep gt_bt) okB (by omega) (by omega) (by simp only [List.length_append, List.length_nil, List.nil_append, List.length_cons]; omega) (by simp; omega) (by simp; omega) (by simp) (by simp)) ?_
      intro _ w23 h23
      have kk := h22.keep.trans h23.keep
      have bbl := h22.below.trans h23.below
      have oA := (hgA21.keepT kk gt_bt).own hX1
      have oB := (hgB21.keepT kk gt_bt).own hX1
      have dA := hgA.dis
      have dB := hgB.dis
      have s912 := e1012.size
      have s910 := e10.size
      have s1015 := e1015.size
      have s1315 := e1315.size
      have s1520 := e1520.size
      have s2021 := e21.size
      have s1213 := e13.size
      have s2123 := bbl.size
      have s09 := e09.size
      have s59 := e59.size
      have dd : ∀ {us vs : List Value}, Dis loA us w10.heap.size → Dis loB vs w13.heap.size → Dis loA (us ++ vs) w13.heap.size := fun h1 h2 => Dis.join h1 h2 (.inl (by omega)) (Nat.le_refl _) (by omega) (by have := h1.le; omega) (Nat.le_refl _)
      have both : ∀ {Φ : Value → Prop} {us vs : List Value}, (∀ v ∈ us, Φ v) → (∀ v ∈ vs, Φ v) → ∀ (j : Nat) (v : Value), ([] ++ us ++ vs)[j]? = some v → Φ v := fun h1 h2 j v hv => by
        rw [List.nil_append] at hv
        rcases List.mem_append.1 (List.mem_of_getElem? hv) with h | h
        · exact h1 v h
        · exact h2 v h
      have B1 := both oA.txt oB.txt
      have B2 := both oA.rows oB.rows
      have B3 := both oA.sigs oB.sigs
      have B4 := both oA.msgs oB.msgs
      have B5 := both oA.tabs oB.tabs
      refine GoN.does pl14 (apart (lo := loA) (h1 := w13.heap.size) (h2 := w13.heap.size) (h3 := w13.heap.size) (h4 := w13.heap.size) (h5 := w13.heap.size) h23.book
        (fun j v hv => by rw [List.append_assoc] at hv; obtain ⟨n, xs, h1, _⟩ := B1 j v hv; exact ⟨n, xs, h1⟩) (fun j v hv => by obtain ⟨n, xs, h1, _⟩ := B2 j v hv; exact ⟨n, xs, h1⟩) (fun j v hv => by obtain ⟨n, xs, h1, _⟩ := B3 j v hv; exact ⟨n, xs, h1⟩) (fun j v hv => by obtain ⟨n, xs, h1, _⟩ := B4 j v hv; exact ⟨n, xs, h1⟩) (fun j v hv => by obtain ⟨n, xs, h1, _⟩ := B5 j v hv; exact ⟨n, xs, h1⟩)
        (by have := dd dA.txt dB.txt; simpa using this) (by have := dd dA.rows dB.rows; simpa using this) (by have := dd dA.sigs dB.sigs; simpa using this) (by have := dd dA.msgs dB.msgs; simpa using this) (by have := dd dA.tabs dB.tabs; simpa using this) (by have := dA.txt.le; omega)
        (by simp only [List.length_append, List.length_nil, List.nil_append, List.length_cons]; omega) (by simp; omega) (by simp; omega) (by simp) (by simp)
        (fun j v hv => by rw [List.append_assoc] at hv; obtain ⟨n, xs, h1, h2⟩ := B1 j v hv; rw [h1.sLen]; exact h2) (fun j v hv => by obtain ⟨n, xs, h1, h2⟩ := B2 j v hv; rw [h1.sLen]; exact h2) (fun j v hv => by obtain ⟨n, xs, h1, h2⟩ := B3 j v hv; rw [h1.sLen]; exact h2) (fun j v hv => by obtain ⟨n, xs, h1, h2⟩ := B4 j v hv; rw [h1.sLen]; exact h2) (fun j v hv => by obtain ⟨n, xs, h1, h2⟩ := B5 j v hv; rw [h1.sLen]; exact h2)) ?_
      rintro _ w24 ⟨rfl, ab, ak⟩
      simp only [not_r, JoinP.eq, PickP.eq, GuardP.yes, GuardP.undef, GuardP.no (show (true == false) = false from rfl), GuardP.no (show (false == true) = false from rfl), CondP.tt, CondP.ff, add_r, sub_r, mul_r, lss_r, leq_r, gtr_r, geq_r, eql_r, neq_r, eqs_r, nes_r, not_r, nil_r, Bool.not_true, Bool.not_false, if_true, if_false, Bool.false_eq_true, decide_true, decide_false, Nat.zero_add, Bool.and_true, Bool.true_and]
      -- once more
      have s920 := e920.size
      have hB9 : Below w9.heap.size w9 w24 := Below.trans (Below.trans (e920.trans e21) (Below.mono bbl s920)) (Below.mono ab hloA)
      have k924 : Keep (BT ++ AT) w9 w24 := ((Keep.ext (e920.trans e21) _).trans (kk.mono (fun t ht => List.mem_append_left _ ht))).trans (ak.mono (fun t ht => List.mem_append_right _ ht))
      have hl24 := hl9.keepT k924 (by decide)
      have hmem24 : ∀ n, some n ∈ sel → (∃ a b, ONode w24 a b n) ∧ OkP n := fun n hn => by
        have ho24 := (ho.keep (.ext e59 []) (by simp) (by simp) (by simp)).below hB9 s59
        obtain ⟨a, b, h⟩ := ONodes.mem ho24 (hsel n hn)
        exact ⟨⟨a, b, h⟩, hnode n hn⟩
      have bw24 : Blk w24 w5.heap.size ((gX no sel).cells s1 m1 t1') 32 := ak.blk _ _ _ (by decide) (kk.blk _ _ _ (by decide) bw21)
      have hS24 : V.Sub (memW w5) w24 := (hS5.ext e59).below hB9 ((Sub.dom hS5).mono s59)
      have hg24 : w24.cell? ⟨0, 0, none⟩ = some (rty 42) := by
        have h9 := cell_ext hg e09
        have hlt := World.block_lt_of_cell? w9 ⟨0, 0, none⟩ h9
        rw [World.cell?_of_block (hB9.block 0 hlt)]
        exact h9
      refine GoN.does pl8 (gather hl24 (by omega) hmem24) ?_
      intro _ w25 hG3
      obtain ⟨e25, loC, sc, mc, tc, qc, rc, rfl, hloC, hgC⟩ := hG3.get hord
      obtain ⟨oc1, _⟩ := hgC.names.one
      obtain ⟨oc2, _⟩ := hgC.oms.one
      obtain ⟨oc3, _⟩ := hgC.ots.one
      simp only [Pure.run (x_0 _ _), Pure.run (x2_1 _ _)]
      refine r_alloc zero32 fun w26 e26 z26 b26 => ?_
      refine r_store size32 (l := (gX no sel).cells sc mc tc) rfl rfl (one_dbc _ oc1 oc2 oc3) b26 (by decide) fun w27 c27 b27 => ?_
      have b27 : Blk w27 w25.heap.size ((gX no sel).cells sc mc tc) 32 := b27
      have e2527 : Ext w25 w27 := e26.chg c27 (Nat.le_refl _)
      have e2427 := e25.trans e2527
      refine GoN.does pl9 (atX hord (cell_ext hg24 e2427)) ?_
      rintro _ w28 ⟨rfl, e28⟩
      have e2428 := e2427.trans e28
      simp only [ldN (b27.ext e28) agg32 (o := 0) rfl, ldN (bw24.ext e2428) agg32 (o := 0) rfl, JoinP.eq, PickP.eq, GuardP.yes, GuardP.undef, GuardP.no (show (true == false) = false from rfl), GuardP.no (show (false == true) = false from rfl), CondP.tt, CondP.ff, add_r, sub_r, mul_r, lss_r, leq_r, gtr_r, geq_r, eql_r, neq_r, eqs_r, nes_r, not_r, nil_r, Bool.not_true, Bool.not_false, if_true, if_false, Bool.false_eq_true, decide_true, decide_false, Nat.zero_add, Bool.and_true, Bool.true_and]
      refine GoN.does pl10 (sameDatabase (x := gX no sel) (Sub.self w28) (hS24.ext e2428) ((hgC.ext e2527).ext e28).rdb hRw hX1) ?_
      rintro _ w29 ⟨rfl, e29⟩
      try simp only [JoinP.eq, PickP.eq, GuardP.yes, GuardP.undef, GuardP.no (show (true == false) = false from rfl), GuardP.no (show (false == true) = false from rfl), CondP.tt, CondP.ff, add_r, sub_r, mul_r, lss_r, leq_r, gtr_r, geq_r, eql_r, neq_r, eqs_r, nes_r, not_r, nil_r, Bool.not_true, Bool.not_false, if_true, if_false, Bool.false_eq_true, decide_true, decide_false, Nat.zero_add, Bool.and_true, Bool.true_and]
      refine ⟨rfl, ?_⟩
      have s924 := hB9.size
      exact Below.trans (Below.trans e09 (Below.mono hB9 s09)) (Below.mono (e2428.trans e29) (by omega))
end Go.Proofs.YtmgleeoecdodjaaDoor.Sh
