/- Gather: the database that parts make, or the error and its place. Conditions: lengths up to 2^30. -/
import Derived.Test.YtmgleeoecdodjaaDoorUg
set_option linter.unusedVariables false
set_option linter.unusedSimpArgs false
set_option maxRecDepth 10000
namespace Go.Proofs.YtmgleeoecdodjaaDoor.Sh
open Go Go.V Go.RowKit

def OkP : PNode → Prop
  | .ver _ => True
  | .sta y _ => y.names.length ≤ 1073741824
  | .msg y _ _ => OkMsg y
  | .tab y _ => y.rows.length ≤ 1073741824
theorem bDb0 (w : World) : (Instr.build 32 #[]).run Tryd.prog w = .ok (zDb.agg (.slice none 0 0) (.slice none 0 0) (.slice none 0 0)) w := by kernel_rfl
theorem bFlt (a b : Int) (w : World) : (Instr.build 96 #[(0, .int .i64 a), (2, .int .i64 b)]).run Tryd.prog w = .ok (.agg #[.int .i64 a, .int .i64 0, .int .i64 b]) w := by kernel_rfl
theorem iFlt (v : Value) : Pure Tryd.prog (Instr.makeInterface 96 v) (.iface 96 v) := fun w => by kernel_rfl
structure GInv (w1 : World) (sel : List (Option PNode)) (la i : Value) (w' : World) : Prop where
  h : ∃ (k : Nat) (s ms ts : Value) (qm : List QM) (qt : List QT), k ≤ sel.length ∧ i = .int .i64 k ∧ la = .int .i64 (lastK (sel.map okind) k) ∧ (∀ j, j < k → wrongAt (sel.map okind) j = false) ∧ Ext w1 w' ∧
    Blk w' w1.heap.size ((gDb (prts sel k)).cells s ms ts) 32 ∧ Gat w' w1.heap.size (gDb (prts sel k)) s ms ts qm qt ∧ (lastK (sel.map okind) k < 2 → qm = [] ∧ qt = [])
theorem gDb_len (l : List DNode) : (gDb l).msgs.length ≤ l.length ∧ (gDb l).tabs.length ≤ l.length := by
  have : ∀ (l : List DNode) (x : DDb), (l.foldl gStep x).msgs.length ≤ x.msgs.length + l.length ∧ (l.foldl gStep x).tabs.length ≤ x.tabs.length + l.length := by
    intro l
    induction l with
    | nil => intro x; simp
    | cons n l ih =>
      intro x
      have := ih (gStep x n)
      simp only [List.foldl_cons, List.length_cons]
      cases n <;> simp only [gStep, List.length_append, List.length_cons, List.length_nil] at this ⊢ <;> omega
  have := this l zDb
  simpa [gDb, zDb] using this
theorem prts_len (sel : List (Option PNode)) (k : Nat) : (prts sel k).length ≤ sel.length := by
  unfold prts
  rw [List.length_map]
  refine Nat.le_trans (List.length_filterMap_le _ _) ?_
  simp; omega
theorem one_dbc (x : DDb) {s m t : Value} (h1 : s.oneCell' = true) (h2 : m.oneCell' = true) (h3 : t.oneCell' = true) : ∀ u ∈ x.cells s m t, u.oneCell' = true := by
  intro u hu
  simp only [DDb.cells, List.mem_cons, List.not_mem_nil, or_false] at hu
  rcases hu with rfl | rfl | rfl | rfl | rfl | rfl | rfl | rfl | rfl <;> first | rfl | assumption
/-- What Gather answers. -/
structure Gathered (sel : List (Option PNode)) (w : World) (r : Value) (w' : World) : Prop where
  ext : Ext w w'
  h : ∃ (no : Int) (i : Nat), Ord (sel.map okind) no i ∧ (no ≠ 0 → r = .tuple #[zDb.agg (.slice none 0 0) (.slice none 0 0) (.slice none 0 0), flt no i]) ∧
    (no = 0 → ∃ lo s ms ts qm qt, r = .tuple #[(gDb (prts sel sel.length)).agg s ms ts, .nilIface] ∧ w.heap.size ≤ lo ∧ Gat w' lo (gDb (prts sel sel.length)) s ms ts qm qt)
theorem gather {l : Value} {sel : List (Option PNode)} {w : World} (hl : Own w 49 1 l sel.length (sel.map oval)) (hn : sel.length ≤ 1073741824) (hmem : ∀ n, some n ∈ sel → (∃ a b, ONode w a b n) ∧ OkP n) :
    Does Tryd.prog 8 [l] w (Gathered sel w) := by
  have hkl : (sel.map okind).length = sel.length := by simp
  refine D8 ?_
  unfold S8
  refine r_alloc zero32 fun w1 e1 z1 b1 => ?_
  refine r_alloc zero32 fun w2 e2 z2 b2 => ?_
  have bad : ∀ (no : Int) (i : Nat) (w' : World), no ≠ 0 → Ext w1 w' → Ord (sel.map okind) no i →
      Run Tryd.prog (Instr.makeInterface 96 (.agg #[.int .i64 no, .int .i64 0, .int .i64 (i : Int)])) w' fun t59 w39 =>
      RunU Tryd.prog (Instr.storeAt 32 (.pointer (some ⟨w.heap.size, 0, none⟩)) (zDb.agg (.slice none 0 0) (.slice none 0 0) (.slice none 0 0))) w39 fun w40 =>
      resK Tryd.prog (.pointer (some ⟨w.heap.size, 0, none⟩)) 32 w40 fun r0 =>
      Gathered sel w (.tuple #[r0, t59]) w40 := by
    intro no i w' hno hx ho
    rw [Pure.run (iFlt _)]
    refine r_store size32 (l := zDb.cells (.slice none 0 0) (.slice none 0 0) (.slice none 0 0)) rfl rfl (one_dbc _ rfl rfl rfl) (b1.ext hx) (by decide) fun w5 c5 b5 => ?_
    have b5 : Blk w5 w.heap.size (zDb.cells (.slice none 0 0) (.slice none 0 0) (.slice none 0 0)) 32 := b5
    refine k_loadN agg32 (l := zDb.cells (.slice none 0 0) (.slice none 0 0) (.slice none 0 0)) rfl b5.at ?_
    exact ⟨(e1.trans hx).chg c5 (Nat.le_refl _), no, i, ho, fun _ => rfl, fun h => absurd h hno⟩
  obtain ⟨p, c, rfl, hpc⟩ := hl.len
  simp only [Pure.run (p_len sl35.slice), JoinP.eq]
  refine LoopP.of3 (fun _ la i w' => GInv w1 sel la i w') (fun _ _ i _ => sel.length - (intOf i).toNat)
    ⟨0, .slice none 0 0, .slice none 0 0, .slice none 0 0, [], [], Nat.zero_le _, rfl, rfl, fun j hj => by omega, e2, b2, Gat.start (by omega), fun _ => ⟨rfl, rfl⟩⟩ ?_
  rintro t3 _ _ w3 ⟨k, s, ms, ts, qm, qt, hk, rfl, rfl, hb, hx, bd, hg, hlt2⟩
  simp only [lss_r]
  have hgl := hx.size
  have hd1 := bd.lt
  refine CondP.dec (fun h => ?_) (fun h => ?_)
  · have hk' : k < sel.length := by omega
    obtain ⟨o, ho⟩ : ∃ o, sel[k]? = some o := ⟨sel[k], by simp [hk']⟩
    have hko : (sel.map okind)[k]? = some (okind o) := by rw [List.getElem?_map, ho]; rfl
    obtain ⟨g, rfl, hcell⟩ := ((hl.ext e1).ext hx).cell1 (g := 0) (k := k) (v := oval o) (by rw [List.getElem?_map, ho]; rfl)
    have pL : Pure Tryd.prog (Instr.indexAt 35 (.slice (some ⟨g, 0, none⟩) sel.length c) (.int .i64 (k : Int))) (.pointer (some ⟨g, k, none⟩)) := by
      have := pIdx (b := g) (c := c) sl35.slice size49 hk'
      simpa using this
    have hone : oone o := by
      cases o with
      | none => trivial
      | some n => obtain ⟨⟨a, b, hnode⟩, _⟩ := hmem n (List.mem_of_getElem? ho); exact hnode.one
    simp only [JoinP.eq]
    rw [Pure.run pL, ldc one49 hcell]
    refine GoN.does pl23 (kindO hone) ?_
    rintro _ w4 ⟨rfl, e4⟩
    rw [Run.eq (fRank0 _ _ _)]
    simp only [geq_r]
    refine r_wrong ?_
    have hwr := wrongAt_of hko
    have hls := lastK_succ hko
    have hx4 := hx.trans e4
    have bd4 := bd.ext e4
    have hg4 := hg.ext e4
    have h4l := e4.size
    have hmem4 : ∀ n, some n ∈ sel → (∃ a b, ONode w4 a b n) ∧ OkP n := fun n hn => by
      obtain ⟨⟨a, b, h1⟩, h2⟩ := hmem n hn
      exact ⟨⟨a, b, h1.keep (.ext ((e1.trans hx).trans e4) []) (by simp) (by simp) (by simp)⟩, h2⟩
    clear bd hg hx hcell
    generalize hla : lastK (sel.map okind) k = la at *
    have hwe : (decide (okind o = 0) || decide (okind o < la) || (decide (okind o = 1) && decide (0 < (k : Int))) || (decide (okind o = 2) && decide (2 ≤ la)) || (decide (2 < okind o) && !decide (2 ≤ la))) = wrongAt (sel.map okind) k := by
      rw [hwr]; unfold wrong
      rw [show decide (0 < (k : Int)) = decide (0 < k) from decide_eq_decide.2 (by omega)]
    rw [hwe]
    refine CondP.of (fun h => ?_) (fun h => ?_)
    · rw [Run.eq (bDb0 _), Run.eq (bFlt _ _ _)]
      exact bad 4 k w4 (by decide) hx4 (.form k (by omega) h hb)
    · have hwr' := h
      rw [hwr] at hwr'
      unfold wrong at hwr'
      simp only [Bool.or_eq_false_iff, Bool.and_eq_false_iff, decide_eq_false_iff_not, Bool.not_eq_false', decide_eq_true_eq] at hwr'
      have fin : ∀ (t3' : Value) (w' : World) (s ms ts : Value) (qm : List QM) (qt : List QT), Ext w1 w' → Blk w' w1.heap.size ((gDb (prts sel (k + 1))).cells s ms ts) 32 → Gat w' w1.heap.size (gDb (prts sel (k + 1))) s ms ts qm qt → (okind o < 2 → qm = [] ∧ qt = []) →
          GInv w1 sel (.int .i64 (okind o)) (.int .i64 (IntKind.i64.wrap ((k : Int) + 1))) w' ∧ sel.length - (intOf (Value.int .i64 (IntKind.i64.wrap ((k : Int) + 1)))).toNat < sel.length - (intOf (.int .i64 (k : Int))).toNat := by
        intro t3' w' s ms ts qm qt f1 f2 f3 f4
        refine ⟨⟨k + 1, s, ms, ts, qm, qt, by omega, succ64 (by omega), by rw [hls], fun j hj => ?_, f1, f2, f3, by rw [hls]; exact f4⟩, ?_⟩
        · rcases Nat.lt_or_ge j k with h' | h'
          · exact hb j h'
          · obtain rfl : j = k := by omega
            exact h
        · rw [succ64 (by omega)]; simp [intOf]; omega
      cases o with
      | none => simp [okind] at hwr'
      | some n =>
        obtain ⟨⟨na, nb, hnode⟩, hokp⟩ := hmem4 n (List.mem_of_getElem? ho)
        have hone : n.one := hone
        obtain ⟨za, pa, _, _, va⟩ := as_ver hone
        obtain ⟨zs, ps, _, _, vs⟩ := as_sta hone
        obtain ⟨zm, pm, _, _, vm⟩ := as_msg hone
        obtain ⟨zt, pt, _, _, vt⟩ := as_tab hone
        have hps := prts_some ho
        have hgd : gDb (prts sel (k + 1)) = gStep (gDb (prts sel k)) n.data := by rw [hps, gDb_snoc]
        rw [hgd] at fin
        have hcm := gDb_len (prts sel k)
        have hcl := prts_len sel k
        have hqm : qm.length ≤ sel.length := by have := congrArg List.length hg4.msgs; simp only [List.length_map] at this; omega
        have hqt : qt.length ≤ sel.length := by have := congrArg List.length hg4.tabs; simp only [List.length_map] at this; omega
        clear hcm hcl
        generalize gDb (prts sel k) = x at *
        simp only [JoinP.eq, oval, Pure.run pa, Pure.run ps, Pure.run pm, Pure.run pt, Pure.run p_ext_0, Pure.run p_ext_1]
        cases n with
        | ver y =>
          obtain rfl := va y rfl
          simp only [show decide ((PNode.ver y).data.kind = 1) = true from rfl, JoinP.eq, PickP.eq, GuardP.yes, GuardP.undef, GuardP.no (show (true == false) = false from rfl), GuardP.no (show (false == true) = false from rfl), CondP.tt, CondP.ff, add_r, sub_r, mul_r, lss_r, leq_r, gtr_r, geq_r, eql_r, neq_r, eqs_r, nes_r, not_r, nil_r, Bool.not_true, Bool.not_false, if_true, if_false, Bool.false_eq_true, decide_true, decide_false, Nat.zero_add, Bool.and_true, Bool.true_and]
          refine r_alloc zero25 fun w5 e5 z5 b5 => ?_
          refine r_store size25 (l := y.cells) rfl rfl (all_one rfl) b5 (by decide) fun w6 c6 b6 => ?_
          have b6 : Blk w6 w4.heap.size y.cells 25 := b6
          have e46 : Ext w4 w6 := e5.chg c6 (Nat.le_refl _)
          intro w7 e7
          have e47 := e46.trans e7
          refine ⟨fun W => Blk W w4.heap.size y.cells 25, b6.ext e7, ?_⟩
          refine ⟨y.agg, fun W hW => run_loadN agg25 rfl hW.at, ?_⟩
          refine Pure.g (p_field (o := 0) fld32_0) ?_
          refine r_store size4 (l := [.bool true]) rfl rfl (all_one rfl) (bd4.ext e47) (show 0 + 0 + 1 ≤ 9 by decide) fun w8 c8 b8 => ⟨(b6.ext e7).chg c8 (by omega), ?_⟩
          refine Pure.g (p_field (o := 0) fld32_1) ?_
          refine r_store size25 (l := y.cells) rfl rfl (all_one rfl) b8 (show 0 + 1 + 3 ≤ 9 by decide) fun w9 c9 b9 => ⟨((b6.ext e7).chg c8 (by omega)).chg c9 (by omega), ?_⟩
          have b9 : Blk w9 w1.heap.size ((gStep x (.ver y)).cells s ms ts) 32 := b9
          have k89 : Keep [32] w7 w9 := (Keep.chg c8 (bd4.ext e47) _ (by simp)).trans (Keep.chg c9 b8 _ (by simp))
          exact fin t3 w9 s ms ts qm qt (((hx4.trans e47).chg c8 (Nat.le_refl _)).chg c9 (Nat.le_refl _)) b9 (((hg4.ext e47).keepT k89 (by decide)).ver y) (fun h' => hlt2 (by simp [okind, PNode.data, DNode.kind] at hwr'; omega))
        | sta y v =>
          obtain rfl := vs y v rfl
          simp only [show decide ((PNode.sta y v).data.kind = 1) = false from rfl, show decide ((PNode.sta y v).data.kind = 2) = true from rfl, JoinP.eq, PickP.eq, GuardP.yes, GuardP.undef, GuardP.no (show (true == false) = false from rfl), GuardP.no (show (false == true) = false from rfl), CondP.tt, CondP.ff, add_r, sub_r, mul_r, lss_r, leq_r, gtr_r, geq_r, eql_r, neq_r, eqs_r, nes_r, not_r, nil_r, Bool.not_true, Bool.not_false, if_true, if_false, Bool.false_eq_true, decide_true, decide_false, Nat.zero_add, Bool.and_true, Bool.true_and]
          have hla2 : la < 2 := by simp [okind, PNode.data, DNode.kind] at hwr'; omega
          obtain ⟨rfl, rfl⟩ := hlt2 hla2
          refine r_alloc zero28 fun w5 e5 z5 b5 => ?_
          obtain ⟨ov, _⟩ := Own.one hnode.1
          refine r_store size28 (l := y.pre ++ [v]) rfl rfl (one_snoc (one_stapre y) ov) b5 (by decide) fun w6 c6 b6 => ?_
          have b6 : Blk w6 w4.heap.size (y.pre ++ [v]) 28 := b6
          have e46 : Ext w4 w6 := e5.chg c6 (Nat.le_refl _)
          rw [ldN b6 agg28 (o := 0) rfl]
          have hnode6 := hnode.1.ext e46
          refine GoN.does pl19 (stations (x := y) (Sub.self w6) (Own.texts hnode6) hokp) ?_
          rintro r w7 ⟨v', rfl, hc⟩
          have htx := Cloned.texts hc
          have e47 := e46.trans hc.ext
          rw [Pure.run (p_field (o := 0) fld32_2)]
          obtain ⟨ov', _⟩ := htx.one
          refine r_store size28 (l := y.pre ++ [v']) rfl rfl (one_snoc (one_stapre y) ov') (bd4.ext e47) (show 0 + 4 + 3 ≤ 9 by decide) fun w8 c8 b8 => ?_
          have b8 : Blk w8 w1.heap.size ((gStep x (.sta y)).cells v' ms ts) 32 := b8
          have k8 : Keep [32] w7 w8 := Keep.chg c8 (bd4.ext e47) _ (by simp)
          exact fin t3 w8 v' ms ts [] [] ((hx4.trans e47).chg c8 (Nat.le_refl _)) b8 ((hg4.sta y e47 (by omega) htx (fun g hg => Nat.le_trans e46.size (hc.low g hg))).keepT k8 (by decide)) (fun h' => ⟨rfl, rfl⟩)
        | msg y v tvs =>
          obtain rfl := vm y v tvs rfl
          simp only [show decide ((PNode.msg y v tvs).data.kind = 1) = false from rfl, show decide ((PNode.msg y v tvs).data.kind = 2) = false from rfl, show decide ((PNode.msg y v tvs).data.kind = 3) = true from rfl, JoinP.eq, PickP.eq, GuardP.yes, GuardP.undef, GuardP.no (show (true == false) = false from rfl), GuardP.no (show (false == true) = false from rfl), CondP.tt, CondP.ff, add_r, sub_r, mul_r, lss_r, leq_r, gtr_r, geq_r, eql_r, neq_r, eqs_r, nes_r, not_r, nil_r, Bool.not_true, Bool.not_false, if_true, if_false, Bool.false_eq_true, decide_true, decide_false, Nat.zero_add, Bool.and_true, Bool.true_and]
          have hnode : OMsg w4 na nb y v tvs := hnode
          refine r_alloc zero77 fun w5 e5 z5 b5 => ?_
          obtain ⟨ov, _⟩ := hnode.own.one
          refine r_store size77 (l := y.pre ++ [v]) rfl rfl (one_snoc (one_msgpre y) ov) b5 (by decide) fun w6 c6 b6 => ?_
          have b6 : Blk w6 w4.heap.size (y.pre ++ [v]) 77 := b6
          have e46 : Ext w4 w6 := e5.chg c6 (Nat.le_refl _)
          intro w7 e7
          have e47 := e46.trans e7
          rw [Pure.runQ (p_field (o := 0) fld32_3)]
          refine q_load1 one29 (v := ms) ((bd4.ext e47).get rfl) ?_
          refine q_loadN agg77 (l := y.pre ++ [v]) rfl (b6.ext e7).at ?_
          refine GoN.does pl20 (message (x := y) (Sub.self w7) (OMsg.sigs (OMsg.ext hnode e47)) hokp) ?_
          rintro r w8 ⟨v', tvs', rfl, e8, ho8⟩
          refine ⟨e8, ?_⟩
          have e48 := e47.trans e8
          obtain ⟨ov', _⟩ := ho8.own.one
          refine r_append1D sl29 (hg4.ext e48).oms e8 rfl (one_snoc (one_msgpre y) ov') (by unfold maxLen; omega) (by omega) fun ms' w9 hown hgr => ?_
          have k9 : Keep [77] w8 w9 := .grow hgr (hg4.ext e48).oms _ (by simp)
          have bd9 := k9.blk _ _ _ (by decide) (bd4.ext e48)
          rw [Pure.run (p_field (o := 0) fld32_3)]
          obtain ⟨om1, om2⟩ := hown.one
          refine r_store size29 (l := [ms']) (by rw [om2]) rfl (by simpa using om1) bd9 (show 0 + 7 + 1 ≤ 9 by decide) fun w10 c10 b10 => ?_
          have b10 : Blk w10 w1.heap.size ((gStep x (.msg y)).cells s ms' ts) 32 := b10
          have k10 : Keep [32] w9 w10 := Keep.chg c10 bd9 _ (by simp)
          have hx9 : Ext w1 w9 := Below.trans (hx4.trans e48) (hgr.below (Nat.le_trans hx4.size e48.size) hg4.lms)
          exact fin t3 w10 s ms' ts _ qt (hx9.chg c10 (Nat.le_refl _)) b10 (((hg4.ext e47).msg (by have := hx4.size; have := e47.size; omega) e8 ho8 hgr hown).keepT k10 (by decide)) (fun h' => by simp [okind, PNode.data, DNode.kind] at h')
        | tab y v =>
          obtain rfl := vt y v rfl
          simp only [show decide ((PNode.tab y v).data.kind = 1) = false from rfl, show decide ((PNode.tab y v).data.kind = 2) = false from rfl, show decide ((PNode.tab y v).data.kind = 3) = false from rfl, show decide ((PNode.tab y v).data.kind = 4) = true from rfl, JoinP.eq, PickP.eq, GuardP.yes, GuardP.undef, GuardP.no (show (true == false) = false from rfl), GuardP.no (show (false == true) = false from rfl), CondP.tt, CondP.ff, add_r, sub_r, mul_r, lss_r, leq_r, gtr_r, geq_r, eql_r, neq_r, eqs_r, nes_r, not_r, nil_r, Bool.not_true, Bool.not_false, if_true, if_false, Bool.false_eq_true, decide_true, decide_false, Nat.zero_add, Bool.and_true, Bool.true_and]
          refine r_alloc zero81 fun w5 e5 z5 b5 => ?_
          obtain ⟨ov, _⟩ := Own.one hnode.1
          refine r_store size81 (l := y.pre ++ [v]) rfl rfl (one_snoc (one_tabpre y) ov) b5 (by decide) fun w6 c6 b6 => ?_
          have b6 : Blk w6 w4.heap.size (y.pre ++ [v]) 81 := b6
          have e46 : Ext w4 w6 := e5.chg c6 (Nat.le_refl _)
          intro w7 e7
          have e47 := e46.trans e7
          rw [Pure.runQ (p_field (o := 0) fld32_4)]
          refine q_load1 one30 (v := ts) ((bd4.ext e47).get rfl) ?_
          refine q_loadN agg81 (l := y.pre ++ [v]) rfl (b6.ext e7).at ?_
          refine GoN.does pl21 (table (x := y) (Sub.self w7) (Own.rows (hnode.1.ext e47)) hokp) ?_
          rintro r w8 ⟨v', rfl, hc⟩
          have e8 := hc.ext
          refine ⟨e8, ?_⟩
          have e48 := e47.trans e8
          have hrw := Cloned.rows hc
          obtain ⟨ov', _⟩ := hrw.one
          refine r_append1D sl30 (hg4.ext e48).ots e8 rfl (one_snoc (one_tabpre y) ov') (by unfold maxLen; omega) (by omega) fun ts' w9 hown hgr => ?_
          have k9 : Keep [81] w8 w9 := .grow hgr (hg4.ext e48).ots _ (by simp)
          have bd9 := k9.blk _ _ _ (by decide) (bd4.ext e48)
          rw [Pure.run (p_field (o := 0) fld32_4)]
          obtain ⟨om1, om2⟩ := hown.one
          refine r_store size30 (l := [ts']) (by rw [om2]) rfl (by simpa using om1) bd9 (show 0 + 8 + 1 ≤ 9 by decide) fun w10 c10 b10 => ?_
          have b10 : Blk w10 w1.heap.size ((gStep x (.tab y)).cells s ms ts') 32 := b10
          have k10 : Keep [32] w9 w10 := Keep.chg c10 bd9 _ (by simp)
          have hx9 : Ext w1 w9 := Below.trans (hx4.trans e48) (hgr.below (Nat.le_trans hx4.size e48.size) hg4.lts)
          exact fin t3 w10 s ms ts' qm _ (hx9.chg c10 (Nat.le_refl _)) b10 (((hg4.ext e47).tab (by have := hx4.size; have := e47.size; omega) e8 hrw hc.low hgr hown).keepT k10 (by decide)) (fun h' => by simp [okind, PNode.data, DNode.kind] at h')
  · obtain rfl : k = sel.length := by omega
    try simp only [lss_r]
    refine CondP.dec (fun h => ?_) (fun h => ?_)
    · rw [Run.eq (bDb0 _)]
      try simp only [Pure.run (p_len sl35.slice)]
      rw [Run.eq (bFlt _ _ _)]
      have := Ord.short (ks := sel.map okind) (by rw [hkl]; exact hb) (by rw [hkl]; exact h)
      rw [hkl] at this
      exact bad 2 sel.length w3 (by decide) hx this
    · obtain ⟨os1, _⟩ := hg.names.one
      obtain ⟨om1, _⟩ := hg.oms.one
      obtain ⟨ot1, _⟩ := hg.ots.one
      rw [ldN bd agg32 (o := 0) rfl]
      refine r_store size32 (l := (gDb (prts sel sel.length)).cells s ms ts) rfl rfl (one_dbc _ os1 om1 ot1) (b1.ext hx) (by decide) fun w5 c5 b5 => ?_
      have b5 : Blk w5 w.heap.size ((gDb (prts sel sel.length)).cells s ms ts) 32 := b5
      refine k_loadN agg32 (l := (gDb (prts sel sel.length)).cells s ms ts) rfl b5.at ?_
      have := Ord.ok (ks := sel.map okind) (by rw [hkl]; exact hb) (by rw [hkl]; omega)
      refine ⟨(e1.trans hx).chg c5 (Nat.le_refl _), 0, 0, this, fun h => absurd rfl h, fun _ => ⟨w1.heap.size, s, ms, ts, qm, qt, rfl, by omega, hg.keepT (Keep.chg c5 (b1.ext hx) [32] (by simp)) (by decide)⟩⟩
end Go.Proofs.YtmgleeoecdodjaaDoor.Sh
