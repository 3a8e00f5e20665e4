/- Parts chosen by numbers: the walk. Conditions: at most 200 numbers, lengths up to 2^30. -/
import Derived.Test.YtmgleeoecdodjaaDoorUj
set_option linter.unusedVariables false
set_option linter.unusedSimpArgs false
set_option maxRecDepth 10000
namespace Go.V
theorem sub_q' {P : Program} {T : TypeId} {x y : Operand} {k : IntKind} {a b : Int} {w : World} {K : Value → Prop} : RunQ P (binSem .sub T x y (.int k a) (.int k b)) w K = K (.int k (k.wrap (a - b))) := p_sub.runQ
end Go.V
namespace Go.Proofs.YtmgleeoecdodjaaDoor.Sh
open Go Go.V Go.RowKit

theorem ONodes.mem {w : World} {ns : List PNode} {lo hi : Nat} (h : ONodes w lo ns hi) {n : PNode} (hn : n ∈ ns) : ∃ a b, ONode w a b n := by
  obtain ⟨i, hi⟩ := List.mem_iff_getElem?.1 hn
  exact h.get hi
theorem ONodes.low {w : World} {lo lo' hi : Nat} {ns : List PNode} (h : ONodes w lo ns hi) (hl : lo' ≤ lo) : ONodes w lo' ns hi := by
  cases ns with
  | nil => exact Nat.le_trans hl h
  | cons n ns => obtain ⟨mid, m1, m2⟩ := h; exact ⟨mid, m1.mono hl (Nat.le_refl _), m2⟩
set_option maxHeartbeats 1000000 in
theorem chosen {m : Mem} {d pv : Value} {x : DDb} {ps : List Int} {w : World} (hm : Sub m w) (hd : RDb m d x) (hx : OkDb x) (hp : Ints m pv ps) (hn : ps.length ≤ 200) :
    Does Tryd.prog 6 [d, pv] w (Chosen x ps.length w) := by
  obtain ⟨s, ms, ts, rfl, hs, hms, hts⟩ := hd.h
  have n1 := hx.names
  have n2 := hx.msgs
  have n3 := hx.tabs
  have nl := nodes_len x
  refine D6 ?_
  unfold S6
  refine r_box fun w1 e1 z1 b1 => ?_
  have b1 : Blk w1 w.heap.size (x.cells s ms ts) 32 := b1
  refine r_alloc zero32 fun w2 e2 z2 b2 => ?_
  have e02 := e1.trans e2
  rw [ldN (b1.ext e2) agg32 (o := 0) rfl]
  refine GoN.does pl5 (list (x := x) (hm.ext e02) hd hx) ?_
  rintro al w3 ⟨e3, ⟨ns, hns, hal, ho⟩, _⟩
  have e03 := e02.trans e3
  rw [ldN ((b1.ext e2).ext e3) agg32 (o := 0) rfl]
  refine GoN.does pl15 (kinds (x := x) (hm.ext e03) hd hx) ?_
  rintro kl w4 ⟨hkl, e4, _⟩
  have e24 := e3.trans e4
  have e04 := e03.trans e4
  have bd := (b1.ext e2).ext e24
  rw [Pure.run (p_field (o := 0) fld32_0), ld1 bd one4 (o := 0 + 0) rfl]
  have hnn := len_of_data hns
  refine CondP.via (fun v w' => v = .int .i64 ((vFirst x : Nat) : Int) ∧ w' = w4) ?_ (fun h K hK => hK _ _ ⟨by simp [vFirst, h], rfl⟩) (fun h K hK => hK _ _ ⟨by simp [vFirst, h], rfl⟩)
  rintro _ _ ⟨rfl, rfl⟩
  refine r_alloc zero32 fun w5 e5 z5 b5 => ?_
  rename_i w4
  have hal4 := hal.ext e4
  have bt := b2.ext e24
  obtain ⟨pa, ca, rfl, hpa⟩ := hal4.len
  obtain ⟨pk, ck, rfl, hpk⟩ := hkl.len
  obtain ⟨pp, cp, rfl, hpp⟩ := hp.form
  simp only [JoinP.eq]
  have hf01 : vFirst x ≤ 1 := by unfold vFirst; split <;> omega
  have e05 := e04.trans e5
  refine LoopP.of3 (fun l kv i w' => Cho m w4 ns l kv i w' ∧ ∃ j : Nat, i = .int .i64 j ∧ j ≤ ps.length) (fun _ _ i _ => ps.length - (intOf i).toNat)
    ⟨⟨[], .slice none 0 0, .slice none 0 0, .slice none 0 0, rfl, fun p hp => by simp at hp, e5, Own.nil _ _ _, Own.nil _ _ _, b5, ⟨Sl.nil _ _ _ _ _, ⟨[], rfl, by simp, Own.nil _ _ _⟩, ⟨[], rfl, by simp, Own.nil _ _ _⟩, fun g hg => by simp [Value.ownBlock] at hg, fun g hg => by simp [Value.ownBlock] at hg⟩, fun g hg => by simp [Value.ownBlock] at hg, fun g hg => by simp [Value.ownBlock] at hg⟩, 0, rfl, Nat.zero_le _⟩ ?_
  rintro l kv _ w6 ⟨⟨sel, s1, ms1, ts1, hi, hsel, hx6, hol, hok, bx, hr, ll, lk⟩, j, rfl, hj⟩
  have hjs : sel.length = j := by injection hi with _ hi; omega
  clear hi
  simp only [Pure.run (p_len sl33.slice), lss_r]
  refine CondP.dec (fun h => ?_) (fun h => ?_)
  · have hj' : j < ps.length := by omega
    obtain ⟨a, ha⟩ : ∃ a, ps[j]? = some a := ⟨ps[j], by simp [hj']⟩
    obtain ⟨bl, ol, cs, rfl, _, _, _, hat, rfl⟩ := hp.get ha
    have e06 := e04.trans hx6
    have hcp : w6.cell? ⟨bl, ol + j * 1 + 0, none⟩ = some (.int .i64 a) := hat w6 (hm.ext e06) 0 _ rfl
    have pP : Pure Tryd.prog (Instr.indexAt 33 (.slice (some ⟨bl, ol, none⟩) ps.length cp) (.int .i64 (j : Int))) (.pointer (some ⟨bl, ol + j * 1 + 0, none⟩)) := by
      have := p_idx (P := Tryd.prog) (b := bl) (o := ol) (n := ps.length) (c := cp) (k := .i64) (i := (j : Int)) sl33.slice size3 (by omega) (by omega)
      simpa using this
    simp only [JoinP.eq]
    rw [Pure.run pP, ldc one3 hcp]
    simp only [Pure.run (p_len sl35.slice), add_r]
    rw [show Value.int .i64 (IntKind.i64.wrap ((ns.length : Int) + 1)) = .int .i64 ((ns.length + 1 : Nat) : Int) from succ64 (by omega)]
    refine GoN.does pl22 (pick (by omega) (by omega)) ?_
    rintro _ w7 ⟨⟨c, hc, rfl⟩, hw7⟩
    obtain rfl : w6 = w7 := hw7.symm
    simp only [geq_r]
    have hbase := hx6.size
    have hxl := bx.lt
    have fin : ∀ (o : Option PNode) (l' kv' s' ms' ts' : Value) (w' : World), (∀ p, o = some p → p ∈ ns) → Ext w4 w' → Own w' 49 1 l' (sel.length + 1) (sel.map oval ++ [oval o]) → Own w' 3 1 kv' (sel.length + 1) ((sel.map okind).map (Value.int .i64) ++ [.int .i64 (okind o)]) →
        Blk w' w4.heap.size ((gDb (prt (sel ++ [o]))).cells s' ms' ts') 32 → Ref m w' w4.heap.size (gDb (prt (sel ++ [o]))) s' ms' ts' → (∀ g, l'.ownBlock = some g → w4.heap.size ≤ g) → (∀ g, kv'.ownBlock = some g → w4.heap.size ≤ g) →
        (Cho m w4 ns l' kv' (.int .i64 (IntKind.i64.wrap ((j : Int) + 1))) w' ∧ ∃ j_1 : Nat, Value.int .i64 (IntKind.i64.wrap ((j : Int) + 1)) = .int .i64 j_1 ∧ j_1 ≤ ps.length) ∧ ps.length - (intOf (Value.int .i64 (IntKind.i64.wrap ((j : Int) + 1)))).toNat < ps.length - (intOf (.int .i64 (j : Int))).toNat := by
      intro o l' kv' s' ms' ts' w' f1 f2 f3 f4 f5 f6 f7 f8
      rw [succ64 (by omega)]
      refine ⟨⟨⟨sel ++ [o], s', ms', ts', by simp [hjs], fun p hp => ?_, f2, by simpa using f3, by simpa using f4, f5, f6, f7, f8⟩, j + 1, rfl, by omega⟩, ?_⟩
      · rcases List.mem_append.1 hp with h | h
        · exact hsel p h
        · simp only [List.mem_singleton] at h; exact f1 p h.symm
      · simp [intOf]; omega
    by_cases hcn : (ns.length : Int) ≤ (c : Int)
    · rw [decide_eq_true hcn]
      simp only [CondP.tt]
      refine r_append1 sl35 hol rfl (all_one rfl) (by unfold maxLen; omega) (by omega) fun l' w8 hol' hgr => ?_
      have k8 : Keep [49] w6 w8 := .grow hgr hol _ (by simp)
      refine r_append1 sl33 (hok.keepT k8 (by decide)) rfl (all_one rfl) (by unfold maxLen; omega) (by omega) fun kv' w9 hok' hgr' => ?_
      have k9 : Keep [3] w8 w9 := .grow hgr' (hok.keepT k8 (by decide)) _ (by simp)
      try simp only [add_r]
      refine fin none l' kv' s1 ms1 ts1 w9 (fun p h => by cases h) ?_ (hol'.keepT k9 (by decide)) hok' ?_ ?_ (hgr.low hbase ll) (hgr'.low (Nat.le_trans hbase k8.size) lk)
      · exact (Below.trans hx6 (hgr.below hbase ll)).trans (hgr'.below (Nat.le_trans hbase k8.size) lk)
      · rw [prt_none]; exact k9.blk _ _ _ (by decide) (k8.blk _ _ _ (by decide) bx)
      · rw [prt_none]; exact (hr.keepT k8 (by decide) (by decide)).keepT k9 (by decide) (by decide)
    · rw [decide_eq_false hcn]
      simp only [CondP.ff]
      have hcl : c < ns.length := by omega
      obtain ⟨n, hnc⟩ : ∃ n, ns[c]? = some n := ⟨ns[c], by simp [hcl]⟩
      have hdc : x.nodes[c]? = some n.data := by rw [← hns, List.getElem?_map, hnc]; rfl
      obtain ⟨a1, a2, hnode⟩ := ho.get hnc
      have hone := hnode.one
      have hnval : n.val.cells = #[n.val] := by cases n <;> rfl
      have hnone : n.val.oneCell' = true := by cases n <;> rfl
      obtain ⟨ga, rfl, hca⟩ := (hal4.ext hx6).cell1 (g := 0) (k := c) (v := n.val) (by rw [List.getElem?_map, hnc]; rfl)
      obtain ⟨gk, rfl, _⟩ := (hkl.ext hx6).cell1 (g := 0) (k := c) (v := .int .i64 n.data.kind) (by rw [kindVals, List.getElem?_map, hdc]; rfl)
      have pA : Pure Tryd.prog (Instr.indexAt 35 (.slice (some ⟨ga, 0, none⟩) ns.length ca) (.int .i64 (c : Int))) (.pointer (some ⟨ga, c, none⟩)) := by
        have := pIdx (b := ga) (c := ca) sl35.slice size49 hcl
        simpa using this
      have pK : Pure Tryd.prog (Instr.indexAt 33 (.slice (some ⟨gk, 0, none⟩) x.nodes.length ck) (.int .i64 (c : Int))) (.pointer (some ⟨gk, c, none⟩)) := by
        have := pIdx (b := gk) (c := ck) sl33.slice size3 (show c < x.nodes.length by omega)
        simpa using this
      rw [Pure.run pA, ldc one49 hca]
      refine r_append1 sl35 hol (by rw [hnval]; rfl) (by rw [hnval]; simpa using hnone) (by unfold maxLen; omega) (by omega) fun l' w8 hol' hgr => ?_
      have k8 : Keep [49] w6 w8 := .grow hgr hol _ (by simp)
      have hx8 : Ext w4 w8 := Below.trans hx6 (hgr.below hbase ll)
      obtain ⟨_, q1, hck8⟩ := (hkl.ext hx8).cell1 (g := 0) (k := c) (v := .int .i64 n.data.kind) (by rw [kindVals, List.getElem?_map, hdc]; rfl)
      injection q1 with q1; injection q1 with q1; subst q1
      rw [Pure.run pK, ldc one3 hck8]
      refine r_append1 sl33 (hok.keepT k8 (by decide)) rfl (all_one rfl) (by unfold maxLen; omega) (by omega) fun kv' w9 hok' hgr' => ?_
      have k9 : Keep [3] w8 w9 := .grow hgr' (hok.keepT k8 (by decide)) _ (by simp)
      have hx9 : Ext w4 w9 := Below.trans hx8 (hgr'.below (Nat.le_trans hbase k8.size) lk)
      obtain ⟨_, q1, hck9⟩ := (hkl.ext hx9).cell1 (g := 0) (k := c) (v := .int .i64 n.data.kind) (by rw [kindVals, List.getElem?_map, hdc]; rfl)
      injection q1 with q1; injection q1 with q1; subst q1
      rw [Pure.run pK, ldc one3 hck9]
      have bx9 := k9.blk _ _ _ (by decide) (k8.blk _ _ _ (by decide) bx)
      have hr9 := (hr.keepT k8 (by decide) (by decide)).keepT k9 (by decide) (by decide)
      have bd9 := bd.ext hx9
      have hol9 := hol'.keepT k9 (by decide)
      have hol9 : Own w9 49 1 l' (sel.length + 1) (sel.map oval ++ [oval (some n)]) := by rw [hnval] at hol9; exact hol9
      have hok9 : Own w9 3 1 kv' (sel.length + 1) ((sel.map okind).map (Value.int .i64) ++ [.int .i64 (okind (some n))]) := hok'
      have ll9 := hgr.low hbase ll
      have lk9 := hgr'.low (Nat.le_trans hbase k8.size) lk
      have hmem : n ∈ ns := List.mem_of_getElem? hnc
      clear bx hr hol hok hol' hok' hgr hgr' k8 k9 hck8 hck9 hca ll lk
      have hm9 : Sub m w9 := hm.ext (e04.trans hx9)
      have hxl9 := bx9.lt
      have s69 := hx9.size
      have fin := fin (some n) l' kv'
      rw [prt_some, gDb_snoc] at fin
      generalize hgx : gDb (prt sel) = y at *
      try simp only [JoinP.eq, eql_r, add_r]
      cases n with
      | ver v =>
        have hv : v = x.ver := nodes_ver (List.mem_of_getElem? hdc)
        subst hv
        simp only [show (PNode.ver x.ver).data.kind = 1 from rfl, decide_true, CondP.tt]
        rw [Pure.run (p_field (o := 0) fld32_0)]
        refine r_store size4 (l := [.bool true]) rfl rfl (all_one rfl) bx9 (show 0 + 0 + 1 ≤ 9 by decide) fun w10 c10 b10 => ?_
        have k10 : Keep [32] w9 w10 := Keep.chg c10 bx9 _ (by simp)
        have bd10 := bd9.chg c10 (by have := bd.lt; omega)
        rw [Pure.run (p_field (o := 0) fld32_1), ldN bd10 agg25 (o := 0 + 1) rfl, Pure.run (p_field (o := 0) fld32_1)]
        refine r_store size25 (l := x.ver.cells) rfl rfl (all_one rfl) b10 (show 0 + 1 + 3 ≤ 9 by decide) fun w11 c11 b11 => ?_
        have k11 : Keep [32] w10 w11 := Keep.chg c11 b10 _ (by simp)
        have b11 : Blk w11 w4.heap.size ((gStep y (.ver x.ver)).cells s1 ms1 ts1) 32 := b11
        have kk := k10.trans k11
        have hr11 := hr9.keepT kk (by decide) (by decide)
        exact fin s1 ms1 ts1 w11 (fun p h => by injection h with h; subst h; exact hmem) ((hx9.chg c10 (Nat.le_refl _)).chg c11 (Nat.le_refl _)) (hol9.keepT kk (by decide)) (hok9.keepT kk (by decide)) b11 ⟨hr11.names, hr11.msgs, hr11.tabs, hr11.lms, hr11.lts⟩ ll9 lk9
      | sta v u =>
        have hv : v = x.sta := nodes_sta (List.mem_of_getElem? hdc)
        subst hv
        simp only [show (PNode.sta x.sta u).data.kind = 2 from rfl, show decide ((2 : Int) = 1) = false from rfl, decide_true, CondP.tt, CondP.ff]
        rw [Pure.run (p_field (o := 0) fld32_2), ldN bd9 agg28 (o := 0 + 4) rfl, Pure.run (p_field (o := 0) fld32_2)]
        refine r_store size28 (l := x.sta.pre ++ [s]) rfl rfl (one_snoc (one_stapre x.sta) (one_sl hs)) bx9 (show 0 + 4 + 3 ≤ 9 by decide) fun w10 c10 b10 => ?_
        have k10 : Keep [32] w9 w10 := Keep.chg c10 bx9 _ (by simp)
        have b10 : Blk w10 w4.heap.size ((gStep y (.sta x.sta)).cells s ms1 ts1) 32 := b10
        have hr11 := hr9.keepT k10 (by decide) (by decide)
        exact fin s ms1 ts1 w10 (fun p h => by injection h with h; subst h; exact hmem) (hx9.chg c10 (Nat.le_refl _)) (hol9.keepT k10 (by decide)) (hok9.keepT k10 (by decide)) b10 ⟨hs, hr11.msgs, hr11.tabs, hr11.lms, hr11.lts⟩ ll9 lk9
      | msg z u tvs =>
        obtain ⟨hci, hcz⟩ := nodes_at_msg hdc
        simp only [show (PNode.msg z u tvs).data.kind = 3 from rfl, show decide ((3 : Int) = 1) = false from rfl, show decide ((3 : Int) = 2) = false from rfl, decide_true, CondP.tt, CondP.ff]
        obtain ⟨q, a1, a2, a3⟩ := hr9.msgs
        obtain ⟨pm, cm, rfl, hpm⟩ := hms.form
        obtain ⟨bl2, ol2, cs, rfl, _, _, hcl2, hat2, hRz⟩ := hms.get hcz
        intro w10 e10
        have bx10 := bx9.ext e10
        have bd10 := bd9.ext e10
        rw [Pure.runQ (p_field (o := 0) fld32_3)]
        refine q_load1 one29 (v := ms1) (bx10.get rfl) ?_
        rw [Pure.runQ (p_field (o := 0) fld32_3)]
        refine q_load1 one29 (bd10.get rfl) ?_
        simp only [sub_q']
        rw [show IntKind.i64.wrap (IntKind.i64.wrap ((c : Int) - ((vFirst x : Nat) : Int)) - 1) = ((c - vFirst x - 1 : Nat) : Int) by
          rw [wrap64_id (x := (c : Int) - ((vFirst x : Nat) : Int)) (by omega) (by omega), wrap64_id (by omega) (by omega)]; omega]
        have hcz' := (List.getElem?_eq_some_iff.1 hcz).1
        rw [Pure.runQ (p_idx (e := 77) (sz := 8) sl29.slice size77 (by omega) (by omega))]
        refine q_loadN agg77 hcl2 (hat2 w10 (hm9.ext e10)) ?_
        have hqn : q.length ≤ 200 := by
          have h1 := congrArg List.length a1
          have h2 := gDb_len (prt sel)
          have h3 : (prt sel).length ≤ sel.length := by unfold prt; rw [List.length_map]; exact List.length_filterMap_le _ _
          rw [hgx] at h2
          simp only [List.length_map] at h1
          omega
        refine r_append1D sl29 (a3.ext e10) (Ext.refl _) (by simpa [Value.cells] using hcl2) (by
          intro b hb
          obtain ⟨v', rfl, hsg'⟩ := hRz.h
          exact one_snoc (one_msgpre z) (one_sl hsg') b (by simpa [Value.cells] using hb)) (by unfold maxLen; omega) (by omega) fun ms2 w11 hown hgr => ?_
        have k11 : Keep [77] w10 w11 := .grow hgr (a3.ext e10) _ (by simp)
        have bx11 := k11.blk _ _ _ (by decide) bx10
        rw [Pure.run (p_field (o := 0) fld32_3)]
        obtain ⟨om1, om2⟩ := hown.one
        refine r_store size29 (l := [ms2]) (by rw [om2]) rfl (by simpa using om1) bx11 (show 0 + 7 + 1 ≤ 9 by decide) fun w12 c12 b12 => ?_
        have k12 : Keep [32] w11 w12 := Keep.chg c12 bx11 _ (by simp)
        have b12 : Blk w12 w4.heap.size ((gStep y (.msg z)).cells s1 ms2 ts1) 32 := b12
        have hx11 : Ext w4 w11 := Below.trans (hx9.trans e10) (hgr.below (Nat.le_trans s69 e10.size) hr9.lms)
        have kk : Keep [77, 32] w9 w12 := ((Keep.ext e10 _).trans (k11.mono (by simp))).trans (k12.mono (by simp))
        obtain ⟨r, b1', b2', b3'⟩ := hr9.tabs
        refine fin s1 ms2 ts1 w12 (fun p h => by injection h with h; subst h; exact hmem) (hx11.chg c12 (Nat.le_refl _)) (hol9.keepT kk (by decide)) (hok9.keepT kk (by decide)) b12 ⟨hr9.names, ⟨q ++ [(cs, z)], ?_, ?_, ?_⟩, ⟨r, b1', b2', b3'.keepT kk (by decide)⟩, hgr.low (Nat.le_trans s69 e10.size) hr9.lms, hr9.lts⟩ ll9 lk9
        · rw [List.map_append, a1]; rfl
        · intro p hp
          rcases List.mem_append.1 hp with hp | hp
          · exact a2 p hp
          · simp only [List.mem_singleton] at hp; subst hp; exact ⟨hcl2, hRz⟩
        · have := hown.keepT k12 (by decide)
          simpa [Value.cells] using this
      | tab z u =>
        obtain ⟨hci, hcz⟩ := nodes_at_tab hdc
        simp only [show (PNode.tab z u).data.kind = 4 from rfl, show decide ((4 : Int) = 1) = false from rfl, show decide ((4 : Int) = 2) = false from rfl, show decide ((4 : Int) = 3) = false from rfl, decide_true, CondP.tt, CondP.ff]
        obtain ⟨q, a1, a2, a3⟩ := hr9.tabs
        obtain ⟨pm, cm, rfl, hpm⟩ := hms.form
        obtain ⟨pt, ct, rfl, hpt⟩ := hts.form
        obtain ⟨bl2, ol2, cs, rfl, _, _, hcl2, hat2, hRz⟩ := hts.get hcz
        intro w10 e10
        have bx10 := bx9.ext e10
        have bd10 := bd9.ext e10
        rw [Pure.runQ (p_field (o := 0) fld32_4)]
        refine q_load1 one30 (v := ts1) (bx10.get rfl) ?_
        rw [Pure.runQ (p_field (o := 0) fld32_4)]
        refine q_load1 one30 (bd10.get rfl) ?_
        simp only [sub_q']
        rw [Pure.runQ (p_field (o := 0) fld32_3)]
        refine q_load1 one29 (bd10.get rfl) ?_
        rw [Pure.runQ (p_len sl29.slice)]
        simp only [sub_q']
        rw [show IntKind.i64.wrap (IntKind.i64.wrap (IntKind.i64.wrap ((c : Int) - ((vFirst x : Nat) : Int)) - 1) - (x.msgs.length : Int)) = ((c - vFirst x - 1 - x.msgs.length : Nat) : Int) by
          rw [wrap64_id (x := (c : Int) - ((vFirst x : Nat) : Int)) (by omega) (by omega), wrap64_id (x := (c : Int) - ((vFirst x : Nat) : Int) - 1) (by omega) (by omega), wrap64_id (by omega) (by omega)]; omega]
        have hcz' := (List.getElem?_eq_some_iff.1 hcz).1
        rw [Pure.runQ (p_idx (e := 81) (sz := 6) sl30.slice size81 (by omega) (by omega))]
        refine q_loadN agg81 hcl2 (hat2 w10 (hm9.ext e10)) ?_
        have hqn : q.length ≤ 200 := by
          have h1 := congrArg List.length a1
          have h2 := gDb_len (prt sel)
          have h3 : (prt sel).length ≤ sel.length := by unfold prt; rw [List.length_map]; exact List.length_filterMap_le _ _
          rw [hgx] at h2
          simp only [List.length_map] at h1
          omega
        refine r_append1D sl30 (a3.ext e10) (Ext.refl _) (by simpa [Value.cells] using hcl2) (by
          intro b hb
          obtain ⟨v', rfl, hsg'⟩ := hRz.h
          exact one_snoc (one_tabpre z) (one_sl hsg') b (by simpa [Value.cells] using hb)) (by unfold maxLen; omega) (by omega) fun ts2 w11 hown hgr => ?_
        have k11 : Keep [81] w10 w11 := .grow hgr (a3.ext e10) _ (by simp)
        have bx11 := k11.blk _ _ _ (by decide) bx10
        rw [Pure.run (p_field (o := 0) fld32_4)]
        obtain ⟨om1, om2⟩ := hown.one
        refine r_store size30 (l := [ts2]) (by rw [om2]) rfl (by simpa using om1) bx11 (show 0 + 8 + 1 ≤ 9 by decide) fun w12 c12 b12 => ?_
        have k12 : Keep [32] w11 w12 := Keep.chg c12 bx11 _ (by simp)
        have b12 : Blk w12 w4.heap.size ((gStep y (.tab z)).cells s1 ms1 ts2) 32 := b12
        have hx11 : Ext w4 w11 := Below.trans (hx9.trans e10) (hgr.below (Nat.le_trans s69 e10.size) hr9.lts)
        have kk : Keep [81, 32] w9 w12 := ((Keep.ext e10 _).trans (k11.mono (by simp))).trans (k12.mono (by simp))
        obtain ⟨r, b1', b2', b3'⟩ := hr9.msgs
        refine fin s1 ms1 ts2 w12 (fun p h => by injection h with h; subst h; exact hmem) (hx11.chg c12 (Nat.le_refl _)) (hol9.keepT kk (by decide)) (hok9.keepT kk (by decide)) b12 ⟨hr9.names, ⟨r, b1', b2', b3'.keepT kk (by decide)⟩, ⟨q ++ [(cs, z)], ?_, ?_, ?_⟩, hr9.lms, hgr.low (Nat.le_trans s69 e10.size) hr9.lts⟩ ll9 lk9
        · rw [List.map_append, a1]; rfl
        · intro p hp
          rcases List.mem_append.1 hp with hp | hp
          · exact a2 p hp
          · simp only [List.mem_singleton] at hp; subst hp; exact ⟨hcl2, hRz⟩
        · have := hown.keepT k12 (by decide)
          simpa [Value.cells] using this
  · obtain rfl : j = ps.length := by omega
    intro w7 e7
    have bx7 := bx.ext e7
    refine q_loadN agg32 (l := (gDb (prt sel)).cells s1 ms1 ts1) rfl bx7.at ?_
    obtain ⟨q, _, _, a3⟩ := hr.msgs
    obtain ⟨r, _, _, b3⟩ := hr.tabs
    have hx7 := hx6.trans e7
    refine r_store size32 (l := (gDb (prt sel)).cells s1 ms1 ts1) rfl rfl (one_dbc _ (one_sl hr.names) a3.one.1 b3.one.1) (bt.ext hx7) (by decide) fun w8 c8 b8 => ?_
    have b8 : Blk w8 w1.heap.size ((gDb (prt sel)).cells s1 ms1 ts1) 32 := b8
    refine k_loadN agg32 (l := (gDb (prt sel)).cells s1 ms1 ts1) rfl b8.at ?_
    have k8 : Keep [32] w7 w8 := Keep.chg c8 (bt.ext hx7) _ (by simp)
    have e08 : Ext w w8 := (e04.trans hx7).chg c8 (by have := e1.size; omega)
    have k48 : Keep [32] w3 w8 := ((Keep.ext (e4.trans hx7) _).trans k8)
    have hr8 := (hr.keepT (.ext e7 [32]) (by decide) (by decide)).keepT k8 (by decide) (by decide)
    refine ⟨e08, ns, sel, l, kv, _, rfl, hns, ?_, hjs, hsel, (hol.ext e7).keepT k8 (by decide), (hok.ext e7).keepT k8 (by decide), hr8.rdb (hm.ext e08)⟩
    exact ((ho.keep k48 (by decide) (by decide) (by decide)).mono k48.size).low e02.size
end Go.Proofs.YtmgleeoecdodjaaDoor.Sh
