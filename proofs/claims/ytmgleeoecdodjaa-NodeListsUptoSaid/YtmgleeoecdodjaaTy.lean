/- The walk of the law on the parts of a database. Conditions: lengths up to 2^28. -/
import Derived.Test.YtmgleeoecdodjaaTx
set_option linter.unusedVariables false
set_option linter.unusedSimpArgs false
set_option maxRecDepth 10000
namespace Go.Proofs.Ytmgleeoecdodjaa.Sh
open Go Go.V Go.RowKit

def DNode.cntT : DNode → Nat
  | .sta _ => 1
  | .msg x => x.sigs.length
  | _ => 0
def DNode.cntR : DNode → Nat
  | .tab _ => 1
  | _ => 0
def DNode.cntS : DNode → Nat
  | .msg _ => 1
  | _ => 0
theorem ONodes.cnt {w : World} : ∀ {ns : List PNode} {lo hi : Nat}, ONodes w lo ns hi → (ns.flatMap PNode.texts).length = ((ns.map PNode.data).map DNode.cntT).sum ∧ (ns.flatMap PNode.rows).length = ((ns.map PNode.data).map DNode.cntR).sum ∧ (ns.flatMap PNode.sigs).length = ((ns.map PNode.data).map DNode.cntS).sum
  | [], _, _, _ => ⟨rfl, rfl, rfl⟩
  | n :: ns, _, _, ⟨mid, m1, m2⟩ => by
    obtain ⟨a1, a2, a3⟩ := ONodes.cnt m2
    simp only [List.flatMap_cons, List.length_append, List.map_cons, List.sum_cons, a1, a2, a3]
    cases n with
    | ver x => simp [PNode.texts, PNode.rows, PNode.sigs, PNode.data, DNode.cntT, DNode.cntR, DNode.cntS]
    | sta x v => simp [PNode.texts, PNode.rows, PNode.sigs, PNode.data, DNode.cntT, DNode.cntR, DNode.cntS]
    | msg x v tvs => simp [PNode.texts, PNode.rows, PNode.sigs, PNode.data, DNode.cntT, DNode.cntR, DNode.cntS, OMsg.len m1]
    | tab x v => simp [PNode.texts, PNode.rows, PNode.sigs, PNode.data, DNode.cntT, DNode.cntR, DNode.cntS]
theorem nodes_cnt (x : DDb) : (x.nodes.map DNode.cntT).sum = 1 + sumSigs x.msgs ∧ (x.nodes.map DNode.cntR).sum = x.tabs.length ∧ (x.nodes.map DNode.cntS).sum = x.msgs.length := by
  have h1 : ∀ l : List DMsg, ((l.map DNode.msg).map DNode.cntT).sum = sumSigs l ∧ ((l.map DNode.msg).map DNode.cntR).sum = 0 ∧ ((l.map DNode.msg).map DNode.cntS).sum = l.length := fun l => by
    induction l with
    | nil => exact ⟨rfl, rfl, rfl⟩
    | cons y l ih =>
      obtain ⟨a, b, c⟩ := ih
      simp only [List.map_cons, List.sum_cons, a, b, c, DNode.cntT, DNode.cntR, DNode.cntS, List.length_cons, sumSigs]
      refine ⟨?_, ?_, ?_⟩ <;> first | trivial | omega
  have h2 : ∀ l : List DTab, ((l.map DNode.tab).map DNode.cntT).sum = 0 ∧ ((l.map DNode.tab).map DNode.cntR).sum = l.length ∧ ((l.map DNode.tab).map DNode.cntS).sum = 0 := fun l => by
    induction l with
    | nil => exact ⟨rfl, rfl, rfl⟩
    | cons y l ih =>
      obtain ⟨a, b, c⟩ := ih
      simp only [List.map_cons, List.sum_cons, a, b, c, DNode.cntT, DNode.cntR, DNode.cntS, List.length_cons]
      refine ⟨?_, ?_, ?_⟩ <;> first | trivial | omega
  obtain ⟨a1, a2, a3⟩ := h1 x.msgs
  obtain ⟨b1, b2, b3⟩ := h2 x.tabs
  unfold DDb.nodes
  split <;> simp only [List.map_append, List.sum_append, List.map_cons, List.map_nil, List.sum_cons, List.sum_nil, a1, a2, a3, b1, b2, b3, DNode.cntT, DNode.cntR, DNode.cntS] <;> omega
theorem nodes_tab_ok {x : DDb} {y : DTab} (h : DNode.tab y ∈ x.nodes) : y ∈ x.tabs := by
  unfold DDb.nodes at h
  split at h <;> simp at h <;> exact h
theorem nodeLists {m : Mem} {d : Value} {x : DDb} {w : World} (hm : Sub m w) (hd : RDb m d x) (hx : OkDb x) (ht : OkTot x) : Does Try.prog 3 [d] w (Yes w) := by
  obtain ⟨s, ms, ts, rfl, hs, hms, hts⟩ := hd.h
  have t1 := ht.msgs
  have t2 := ht.tabs
  have t3 := ht.sigs
  have nl := nodes_len x
  obtain ⟨q1, q2, q3⟩ := nodes_cnt x
  refine D3 ?_
  unfold S3
  refine r_box fun w1 e1 z1 b1 => ?_
  have b1 : Blk w1 w.heap.size (x.cells s ms ts) 32 := b1
  rw [ldN b1 agg32 (o := 0) rfl]
  refine GoN.does pl5 (lendDatabase (x := x) (hm.ext e1) hd hx) ?_
  rintro r w2 ⟨e2, M, hM2, hMl, hL⟩
  have hRx := LDb.rdb hL
  obtain ⟨s', ms', ts', rfl, ls, lm, lt⟩ := hL.h
  have e02 := e1.trans e2
  have b2 := b1.ext e2
  refine r_alloc zero32 fun w3 e3 z3 b3 => ?_
  refine r_store size32 (l := x.cells s' ms' ts') rfl rfl (by
    intro u hu
    simp only [DDb.cells, List.mem_cons, List.not_mem_nil, or_false] at hu
    have h1 := one_lsl ls
    have h2 := one_lsl lm
    have h3 := one_lsl lt
    rcases hu with rfl | rfl | rfl | rfl | rfl | rfl | rfl | rfl | rfl <;> first | rfl | assumption) b3 (by decide) fun w4 c4 b4 => ?_
  have bx : Blk w4 w2.heap.size (x.cells s' ms' ts') 32 := b4
  have e24 : Ext w2 w4 := e3.chg c4 (Nat.le_refl _)
  have bd := b2.ext e24
  have e04 := e02.trans e24
  have hM4 := hM2.ext e24
  rw [ldN bx agg32 (o := 0) rfl]
  refine GoN.does pl6 (list (x := x) hM4 hRx hx) ?_
  rintro l w5 ⟨e5, ⟨ns, hns, hl, ho⟩, _⟩
  rw [ldN (bx.ext e5) agg32 (o := 0) rfl]
  refine GoN.does pl6 (list (x := x) (hM4.ext e5) hRx hx) ?_
  rintro l2 w6 ⟨e6, ⟨ns2, hns2, hl2, ho2⟩, _⟩
  have e46 := e5.trans e6
  have hl := hl.ext e6
  have ho := ho.keep (.ext e6 []) (by simp) (by simp) (by simp)
  have bd6 := bd.ext e46
  have bx6 := bx.ext e46
  have e06 := e04.trans e46
  rw [ldN bd6 agg32 (o := 0) rfl]
  refine GoN.does pl7 (told (hm.ext e06) hd hx hns hl ho) ?_
  rintro _ w7 ⟨rfl, e7⟩
  simp only [not_r, ldN (bd6.ext e7) agg32 (o := 0) rfl, JoinP.eq, PickP.eq, GuardP.yes, GuardP.undef, GuardP.no (show (true == false) = false from rfl), GuardP.no (show (false == true) = false from rfl), CondP.tt, CondP.ff, add_r, sub_r, mul_r, lss_r, leq_r, gtr_r, geq_r, eql_r, neq_r, eqs_r, nes_r, not_r, nil_r, Bool.not_true, Bool.not_false, if_true, if_false, Bool.false_eq_true, decide_true, decide_false, Nat.zero_add, Bool.and_true, Bool.true_and]
  refine GoN.does pl7 (told ((hm.ext e06).ext e7) hd hx hns2 (hl2.ext e7) (ho2.keep (.ext e7 []) (by simp) (by simp) (by simp))) ?_
  rintro _ w8 ⟨rfl, e8⟩
  have e68 := e7.trans e8
  simp only [not_r, ldN (bd6.ext e68) agg32 (o := 0) rfl, ldN (bx6.ext e68) agg32 (o := 0) rfl, JoinP.eq, PickP.eq, GuardP.yes, GuardP.undef, GuardP.no (show (true == false) = false from rfl), GuardP.no (show (false == true) = false from rfl), CondP.tt, CondP.ff, add_r, sub_r, mul_r, lss_r, leq_r, gtr_r, geq_r, eql_r, neq_r, eqs_r, nes_r, not_r, nil_r, Bool.not_true, Bool.not_false, if_true, if_false, Bool.false_eq_true, decide_true, decide_false, Nat.zero_add, Bool.and_true, Bool.true_and]
  refine GoN.does pl8 (keptDatabase ((hM4.ext e46).ext e68) ((hm.ext e06).ext e68) hL hd hx) ?_
  rintro _ w9 ⟨rfl, e9⟩
  have e69 := e68.trans e9
  try simp only [not_r, JoinP.eq, PickP.eq, GuardP.yes, GuardP.undef, GuardP.no (show (true == false) = false from rfl), GuardP.no (show (false == true) = false from rfl), CondP.tt, CondP.ff, add_r, sub_r, mul_r, lss_r, leq_r, gtr_r, geq_r, eql_r, neq_r, eqs_r, nes_r, not_r, nil_r, Bool.not_true, Bool.not_false, if_true, if_false, Bool.false_eq_true, decide_true, decide_false, Nat.zero_add, Bool.and_true, Bool.true_and]
  refine r_alloc zBook fun w10 e10 z10 b10 => ?_
  have e610 := e69.trans e10
  have bk0 : BookAt w10 w9.heap.size [] [] [] := ⟨_, _, _, b10, Own.nil _ _ _, Own.nil _ _ _, Own.nil _ _ _, fun g h => by simp [Value.ownBlock] at h, fun g h => by simp [Value.ownBlock] at h, fun g h => by simp [Value.ownBlock] at h⟩
  have n1 := len_of_data hns
  have n2 := len_of_data hns2
  have ok : ∀ ns : List PNode, ns.map PNode.data = x.nodes → (∀ y v tvs, PNode.msg y v tvs ∈ ns → OkMsg y) ∧ (∀ y v, PNode.sta y v ∈ ns → y.names.length ≤ 1073741824) ∧ (∀ y v, PNode.tab y v ∈ ns → y.rows.length ≤ 1073741824) := by
    intro ns hns
    have hmem : ∀ n ∈ ns, n.data ∈ x.nodes := fun n hn => by rw [← hns]; exact List.mem_map.2 ⟨n, hn, rfl⟩
    refine ⟨fun y v tvs h => hx.msg y (nodes_msg_ok hx (hmem _ h)), fun y v h => ?_, fun y v h => hx.tab y (nodes_tab_ok (hmem _ h))⟩
    obtain rfl := nodes_sta (hmem _ h)
    exact hx.names
  obtain ⟨k1, k2, k3⟩ := ok ns hns
  obtain ⟨j1, j2, j3⟩ := ok ns2 hns2
  have ho10 := ho.keep (.ext e610 []) (by simp) (by simp) (by simp)
  have ho210 := ho2.keep (.ext e610 []) (by simp) (by simp) (by simp)
  obtain ⟨c1, c2, c3⟩ := ho10.cnt
  obtain ⟨d1, d2, d3⟩ := ho210.cnt
  rw [hns, q1] at c1; rw [hns, q2] at c2; rw [hns, q3] at c3
  rw [hns2, q1] at d1; rw [hns2, q2] at d2; rw [hns2, q3] at d3
  refine GoN.does pl9 (book bk0 (hl.ext e610) ho10 k1 (by omega) (by simp only [List.length_append, List.length_nil, List.nil_append]; omega) (by simp only [List.length_append, List.length_nil, List.nil_append]; omega) (by simp only [List.length_append, List.length_nil, List.nil_append]; omega)) ?_
  intro _ w11 h11
  refine GoN.does pl9 (book h11.book ((hl2.ext e610).keepT h11.keep (by decide)) (ho210.keep h11.keep (by decide) (by decide) (by decide)) j1 (by omega) (by simp only [List.length_append, List.length_nil, List.nil_append]; omega) (by simp only [List.length_append, List.length_nil, List.nil_append]; omega) (by simp only [List.length_append, List.length_nil, List.nil_append]; omega)) ?_
  intro _ w12 h12
  have kk := h11.keep.trans h12.keep
  have bb := h11.below.trans h12.below
  obtain ⟨a1, a2, a3, a4, a5, a6⟩ := (ho10.keep kk (by decide) (by decide) (by decide)).own k1 k2 k3
  obtain ⟨g1, g2, g3, g4, g5, g6⟩ := (ho210.keep kk (by decide) (by decide) (by decide)).own j1 j2 j3
  have bk : BkSt w12 w9.heap.size w4.heap.size w6.heap.size ([] ++ ns.flatMap PNode.texts ++ ns2.flatMap PNode.texts) ([] ++ ns.flatMap PNode.rows ++ ns2.flatMap PNode.rows) ([] ++ ns.flatMap PNode.sigs ++ ns2.flatMap PNode.sigs) := by
    refine ⟨h12.book, fun j v hv => ?_, fun j v hv => ?_, fun j v hv => ?_, ?_, ?_, ?_⟩
    · rcases List.mem_append.1 (List.mem_of_getElem? hv) with h | h
      · exact a1 v (by simpa using h)
      · exact g1 v h
    · rcases List.mem_append.1 (List.mem_of_getElem? hv) with h | h
      · exact a2 v (by simpa using h)
      · exact g2 v h
    · rcases List.mem_append.1 (List.mem_of_getElem? hv) with h | h
      · exact a3 v (by simpa using h)
      · exact g3 v h
    · simpa using a4.append g4
    · simpa using a5.append g5
    · simpa using a6.append g6
  have s410 := e46.size
  have s610 := e610.size
  have s910 := e10.size
  have s69 := e69.size
  have s1012 := bb.size
  have s04 := e04.size
  have s24 := e24.size
  refine GoN.does pl10 (bk.apart (by omega) (by simp only [List.length_append, List.length_nil, List.nil_append]; omega) (by simp only [List.length_append, List.length_nil, List.nil_append]; omega) (by simp only [List.length_append, List.length_nil, List.nil_append]; omega)) ?_
  rintro _ w13 ⟨rfl, ab, ak⟩
  have bd12 := ak.blk _ _ _ (by decide) (kk.blk _ _ _ (by decide) (bd6.ext e610))
  have bx12 := ak.blk _ _ _ (by decide) (kk.blk _ _ _ (by decide) (bx6.ext e610))
  simp only [ldN bd12 agg32 (o := 0) rfl, ldN bx12 agg32 (o := 0) rfl, JoinP.eq, PickP.eq, GuardP.yes, GuardP.undef, GuardP.no (show (true == false) = false from rfl), GuardP.no (show (false == true) = false from rfl), CondP.tt, CondP.ff, add_r, sub_r, mul_r, lss_r, leq_r, gtr_r, geq_r, eql_r, neq_r, eqs_r, nes_r, not_r, nil_r, Bool.not_true, Bool.not_false, if_true, if_false, Bool.false_eq_true, decide_true, decide_false, Nat.zero_add, Bool.and_true, Bool.true_and]
  have e410 := e46.trans e610
  have hmf : V.Sub m w13 := (((hm.ext e06).ext e610).below bb (hm.dom.mono (by omega))).below ab (hm.dom.mono (by omega))
  have hMf : V.Sub M w13 := ((hM4.ext e410).below bb (hM4.dom.mono (by omega))).below ab (hM4.dom.mono (by omega))
  refine GoN.does pl8 (keptDatabase hMf hmf hL hd hx) ?_
  rintro _ w14 ⟨rfl, e14⟩
  try simp only [JoinP.eq, PickP.eq, GuardP.yes, GuardP.undef, GuardP.no (show (true == false) = false from rfl), GuardP.no (show (false == true) = false from rfl), CondP.tt, CondP.ff, add_r, sub_r, mul_r, lss_r, leq_r, gtr_r, geq_r, eql_r, neq_r, eqs_r, nes_r, not_r, nil_r, Bool.not_true, Bool.not_false, if_true, if_false, Bool.false_eq_true, decide_true, decide_false, Nat.zero_add, Bool.and_true, Bool.true_and]
  refine ⟨rfl, ?_⟩
  have sab := ab.size
  have h1 : Below w.heap.size w w10 := e06.trans e610
  exact ((h1.trans (Below.mono bb (by omega))).trans (Below.mono ab (by omega))).trans (Below.mono e14 (by omega))
end Go.Proofs.Ytmgleeoecdodjaa.Sh
