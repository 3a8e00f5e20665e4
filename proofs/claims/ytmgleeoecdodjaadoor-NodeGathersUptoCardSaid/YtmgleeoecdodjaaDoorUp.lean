/- A gathered database, put into the book. Conditions: lengths up to 2^30. -/
import Derived.Test.YtmgleeoecdodjaaDoorUn
set_option linter.unusedVariables false
set_option linter.unusedSimpArgs false
set_option maxRecDepth 10000
namespace Go.Proofs.YtmgleeoecdodjaaDoor.Sh
open Go Go.V Go.RowKit

theorem flat_take' {α β : Type} (f : α → List β) {l : List α} {k : Nat} {a : α} (h : l[k]? = some a) : (l.take (k + 1)).flatMap f = (l.take k).flatMap f ++ f a := by
  rw [List.take_succ_eq_append_getElem (List.getElem?_eq_some_iff.1 h).1, (List.getElem?_eq_some_iff.1 h).2]
  simp
theorem flat_le' {α β : Type} (f : α → List β) (l : List α) (k : Nat) : ((l.take k).flatMap f).length ≤ (l.flatMap f).length := by
  conv => rhs; rw [← List.take_append_drop k l, List.flatMap_append, List.length_append]
  exact Nat.le_add_right _ _
theorem bookMessages {w : World} {kb : Nat} {ts rs ss gs hs : List Value} {v : Value} {qm : List QM} (h : BookAt w kb ts rs ss gs hs) (hown : Own w 77 8 v qm.length (qm.flatMap mC)) (ho : ∀ q ∈ qm, ∃ a b, OMsg w a b q.1 q.2.1 q.2.2) (hok : ∀ q ∈ qm, OkMsg q.1)
    (hq : qm.length ≤ 1073741824) (hn : ts.length + (qm.flatMap (·.2.2)).length ≤ 3221225475) (hn' : ss.length + qm.length ≤ 3221225475) (hn2 : gs.length ≤ 3221225475) :
    Does Tryd.prog 28 [.pointer (some ⟨kb, 0, none⟩), v] w fun _ w' => Booked w kb (ts ++ qm.flatMap (·.2.2)) rs (ss ++ qm.map (·.2.1)) (gs ++ [v]) hs w' := by
  obtain ⟨v1, v5, v10, v11, v12, hb, h1, h5, h10, h11, h12, l1, l5, l10, l11, l12⟩ := h.h
  obtain ⟨hv1, hv2⟩ := hown.one
  refine D28 ?_
  unfold S28
  rw [nil_r, Pure.run (p_field (o := 0) fld67_11), ld1 hb one62 (o := 0 + 11) rfl]
  refine r_append1 sl62 h11 (by rw [hv2]; rfl) (by rw [hv2]; simpa using hv1) (by unfold maxLen; omega) (by omega) fun v' w3 hown3 hg => ?_
  have k3 : Keep [29] w w3 := .grow hg h11 _ (by simp)
  have hb3 := k3.blk _ _ _ (by decide) hb
  rw [nil_r, Pure.run (p_field (o := 0) fld67_11)]
  obtain ⟨o1, o2⟩ := hown3.one
  refine r_store size62 (by rw [o2]) rfl (by simpa using o1) hb3 (show 0 + 11 + 1 ≤ 15 by decide) fun w4 c4 b4 => ?_
  have b4 : Blk w4 kb (bookCells v1 v5 v10 v' v12) 67 := b4
  have k4 : Keep [67] w3 w4 := .chg c4 hb3 _ (by simp)
  have hlt := hb.lt
  rw [hv2] at hown3
  have h4 : Booked w kb ts rs ss (gs ++ [v]) hs w4 := by
    refine ⟨⟨v1, v5, v10, v', v12, b4, (h1.keepT k3 (by decide)).keepT k4 (by decide), (h5.keepT k3 (by decide)).keepT k4 (by decide), (h10.keepT k3 (by decide)).keepT k4 (by decide), by simpa using hown3.keepT k4 (by decide), (h12.keepT k3 (by decide)).keepT k4 (by decide), l1, l5, l10, ?_, l12⟩, ?_, ?_⟩
    · exact hg.low (B := kb + 1) hlt l11
    · exact Go.V.Below.chg (hg.below (B := kb) (by omega) fun k hk => by have := l11 k hk; omega) c4 (Nat.le_refl _)
    · exact (k3.mono (by simp [BT])).trans (k4.mono (by simp [BT]))
  clear b4 hb3 k4 k3 c4 o1 o2 hown3 hg
  simp only [JoinP.eq]
  refine LoopP.of1 (fun i w' => ∃ k : Nat, k ≤ qm.length ∧ i = .int .i64 k ∧ Booked w kb (ts ++ (qm.take k).flatMap (·.2.2)) rs (ss ++ (qm.take k).map (·.2.1)) (gs ++ [v]) hs w') (fun i _ => qm.length - (intOf i).toNat)
    ⟨0, Nat.zero_le _, rfl, by simpa using h4⟩ ?_
  rintro i w5 ⟨k, hk, rfl, h5⟩
  obtain ⟨p, c, rfl, hpc⟩ := hown.len
  simp only [Pure.run (p_len sl29.slice), lss_r]
  refine CondP.dec (fun h => ?_) (fun h => ?_)
  · have hk' : k < qm.length := by omega
    obtain ⟨q, hqk⟩ : ∃ q, qm[k]? = some q := ⟨qm[k], by simp [hk']⟩
    have hmem := List.mem_of_getElem? hqk
    obtain ⟨a, b, hoq⟩ := ho q hmem
    have ho5 := OMsg.keep hoq h5.keep (by decide) (by decide)
    obtain ⟨g, c', hgv, hnc, hat⟩ := (hown.keepT h5.keep (by decide)).at (by omega)
    injection hgv with hp1 hp2 hp3
    subst hp1; subst hp3
    simp only [JoinP.eq]
    rw [Pure.run (p_idx (e := 77) (sz := 8) sl29.slice size77 (by omega) (by omega))]
    refine r_loadN agg77 (l := q.1.pre ++ [q.2.1]) rfl (fun j u hj => ?_) ?_
    · have := hat (k * 8 + j) u (flat_get mC 8 _ k j _ u (fun q _ => rfl) hqk hj)
      rw [show 0 + (k : Int).toNat * 8 + j = 0 + (k * 8 + j) by simp]; exact this
    have t1 := flat_take' (·.2.2) hqk
    have t2 := flat_le' (·.2.2) qm (k + 1)
    rw [t1, List.length_append] at t2
    have t3 := take_snoc (fun q : QM => q.2.1) hqk
    have hsl := ho5.len
    refine GoN.does pl54 (bookMessage h5.book ho5 (hok q hmem) (by simp only [List.length_append]; omega) (by simp only [List.length_append, List.length_map, List.length_take]; omega)) ?_
    intro _ w6 h6
    try simp only [add_r]
    refine ⟨⟨k + 1, by omega, succ64 (by omega), ?_⟩, ?_⟩
    · have := h6.after h5.below h5.keep
      rw [t1, t3, ← List.append_assoc, ← List.append_assoc]
      exact this
    · rw [succ64 (by omega)]; simp [intOf]; omega
  · obtain rfl : k = qm.length := by omega
    rw [List.take_length] at h5
    exact h5
theorem bookTables {w : World} {kb : Nat} {ts rs ss gs hs : List Value} {v : Value} {qt : List QT} (h : BookAt w kb ts rs ss gs hs) (hown : Own w 81 6 v qt.length (qt.flatMap tC)) (ho : ∀ q ∈ qt, Own w 133 2 q.2 q.1.rows.length (rowCells q.1.rows))
    (hq : qt.length ≤ 1073741824) (hn' : rs.length + qt.length ≤ 3221225475) (hn2 : hs.length ≤ 3221225475) :
    Does Tryd.prog 29 [.pointer (some ⟨kb, 0, none⟩), v] w fun _ w' => Booked w kb ts (rs ++ qt.map (·.2)) ss gs (hs ++ [v]) w' := by
  obtain ⟨v1, v5, v10, v11, v12, hb, h1, h5, h10, h11, h12, l1, l5, l10, l11, l12⟩ := h.h
  obtain ⟨hv1, hv2⟩ := hown.one
  refine D29 ?_
  unfold S29
  rw [nil_r, Pure.run (p_field (o := 0) fld67_12), ld1 hb one63 (o := 0 + 12) rfl]
  refine r_append1 sl63 h12 (by rw [hv2]; rfl) (by rw [hv2]; simpa using hv1) (by unfold maxLen; omega) (by omega) fun v' w3 hown3 hg => ?_
  have k3 : Keep [30] w w3 := .grow hg h12 _ (by simp)
  have hb3 := k3.blk _ _ _ (by decide) hb
  rw [nil_r, Pure.run (p_field (o := 0) fld67_12)]
  obtain ⟨o1, o2⟩ := hown3.one
  refine r_store size63 (by rw [o2]) rfl (by simpa using o1) hb3 (show 0 + 12 + 1 ≤ 15 by decide) fun w4 c4 b4 => ?_
  have b4 : Blk w4 kb (bookCells v1 v5 v10 v11 v') 67 := b4
  have k4 : Keep [67] w3 w4 := .chg c4 hb3 _ (by simp)
  have hlt := hb.lt
  rw [hv2] at hown3
  have h4 : Booked w kb ts rs ss gs (hs ++ [v]) w4 := by
    refine ⟨⟨v1, v5, v10, v11, v', b4, (h1.keepT k3 (by decide)).keepT k4 (by decide), (h5.keepT k3 (by decide)).keepT k4 (by decide), (h10.keepT k3 (by decide)).keepT k4 (by decide), (h11.keepT k3 (by decide)).keepT k4 (by decide), by simpa using hown3.keepT k4 (by decide), l1, l5, l10, l11, ?_⟩, ?_, ?_⟩
    · exact hg.low (B := kb + 1) hlt l12
    · exact Go.V.Below.chg (hg.below (B := kb) (by omega) fun k hk => by have := l12 k hk; omega) c4 (Nat.le_refl _)
    · exact (k3.mono (by simp [BT])).trans (k4.mono (by simp [BT]))
  clear b4 hb3 k4 k3 c4 o1 o2 hown3 hg
  simp only [JoinP.eq]
  refine LoopP.of1 (fun i w' => ∃ k : Nat, k ≤ qt.length ∧ i = .int .i64 k ∧ Booked w kb ts (rs ++ (qt.take k).map (·.2)) ss gs (hs ++ [v]) w') (fun i _ => qt.length - (intOf i).toNat)
    ⟨0, Nat.zero_le _, rfl, by simpa using h4⟩ ?_
  rintro i w5 ⟨k, hk, rfl, h5⟩
  obtain ⟨p, c, rfl, hpc⟩ := hown.len
  simp only [Pure.run (p_len sl30.slice), lss_r]
  refine CondP.dec (fun h => ?_) (fun h => ?_)
  · have hk' : k < qt.length := by omega
    obtain ⟨q, hqk⟩ : ∃ q, qt[k]? = some q := ⟨qt[k], by simp [hk']⟩
    have hmem := List.mem_of_getElem? hqk
    obtain ⟨t1, t2⟩ := ((ho q hmem).keepT h5.keep (by decide)).one
    obtain ⟨g, c', hgv, hnc, hat⟩ := (hown.keepT h5.keep (by decide)).at (by omega)
    injection hgv with hp1 hp2 hp3
    subst hp1; subst hp3
    simp only [JoinP.eq]
    rw [Pure.run (p_idx (e := 81) (sz := 6) sl30.slice size81 (by omega) (by omega))]
    refine r_loadN agg81 (l := q.1.pre ++ [q.2]) rfl (fun j u hj => ?_) ?_
    · have := hat (k * 6 + j) u (flat_get tC 6 _ k j _ u (fun q _ => rfl) hqk hj)
      rw [show 0 + (k : Int).toNat * 6 + j = 0 + (k * 6 + j) by simp]; exact this
    have t3 := take_snoc (fun q : QT => q.2) hqk
    refine GoN.does pl55 (bookTable (x := q.1) h5.book t1 t2 (by simp only [List.length_append, List.length_map, List.length_take]; omega)) ?_
    intro _ w6 h6
    try simp only [add_r]
    refine ⟨⟨k + 1, by omega, succ64 (by omega), ?_⟩, ?_⟩
    · have := h6.after h5.below h5.keep
      rw [t3, ← List.append_assoc]
      exact this
    · rw [succ64 (by omega)]; simp [intOf]; omega
  · obtain rfl : k = qt.length := by omega
    rw [List.take_length] at h5
    exact h5
theorem gt_bt : ∀ t ∈ GT, t ∉ BT := by decide
theorem bookDatabase {w : World} {kb lo : Nat} {ts rs ss gs hs : List Value} {x : DDb} {s m t : Value} {qm : List QM} {qt : List QT} (h : BookAt w kb ts rs ss gs hs) (hg : Gat w lo x s m t qm qt) (hok : ∀ q ∈ qm, OkMsg q.1)
    (hq1 : qm.length ≤ 1073741824) (hq2 : qt.length ≤ 1073741824) (n1 : ts.length + (qm.flatMap (·.2.2)).length ≤ 2147483648) (n2 : ss.length ≤ 1073741824) (n3 : rs.length ≤ 1073741824) (n4 : gs.length ≤ 1073741824) (n5 : hs.length ≤ 1073741824) :
    Does Tryd.prog 13 [.pointer (some ⟨kb, 0, none⟩), x.agg s m t] w fun _ w' => Booked w kb (ts ++ qm.flatMap (·.2.2) ++ [s]) (rs ++ qt.map (·.2)) (ss ++ qm.map (·.2.1)) (gs ++ [m]) (hs ++ [t]) w' := by
  refine D13 ?_
  unfold S13
  refine r_box fun w1 e1 z1 b1 => ?_
  have b1 : Blk w1 w.heap.size (x.cells s m t) 32 := b1
  have hg1 := hg.ext e1
  rw [Pure.run (p_field (o := 0) fld32_3), ld1 b1 one29 (o := 0 + 7) (v := m) rfl]
  refine GoN.does pl28 (bookMessages (h.ext e1) hg1.oms hg1.omsg hok hq1 (by omega) (by omega) (by omega)) ?_
  intro _ w2 h2
  have b2 := h2.keep.blk _ _ _ (by decide) b1
  have hg2 := hg1.keepT h2.keep gt_bt
  rw [Pure.run (p_field (o := 0) fld32_4), ld1 b2 one30 (o := 0 + 8) (v := t) rfl]
  refine GoN.does pl29 (bookTables h2.book hg2.ots hg2.otab hq2 (by omega) (by omega)) ?_
  intro _ w3 h3
  have b3 := h3.keep.blk _ _ _ (by decide) b2
  have hg3 := hg2.keepT h3.keep gt_bt
  rw [Pure.run (p_field (o := 0) fld32_2), ldN b3 agg28 (o := 0 + 4) rfl]
  obtain ⟨o1, o2⟩ := hg3.names.one
  refine GoN.does pl30 (bookStations (x := x.sta) h3.book o1 o2 (by simp only [List.length_append]; omega)) ?_
  intro _ w4 h4
  have := (h4.after h3.below h3.keep).after h2.below h2.keep
  exact this.afterX e1 (Nat.le_of_lt h.lt)
end Go.Proofs.YtmgleeoecdodjaaDoor.Sh
