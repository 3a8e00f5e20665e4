/- The book of lists, lists of messages and of tables too. Conditions: lengths up to 2^30. -/
import Derived.Test.YtmgleeoecdodjaaDoorUg
set_option linter.unusedVariables false
set_option linter.unusedSimpArgs false
set_option maxRecDepth 10000
namespace Go.Proofs.YtmgleeoecdodjaaDoor.Sh
open Go Go.V Go.RowKit

def bookCells (v1 v5 v10 v11 v12 : Value) : List Value := [.slice none 0 0, v1, .slice none 0 0, .slice none 0 0, .slice none 0 0, v5, .slice none 0 0, .slice none 0 0, .slice none 0 0, .slice none 0 0, v10, v11, v12, .slice none 0 0, .slice none 0 0]
def BT : List TypeId := [67, 26, 79, 75, 29, 30]
/-- The book at kb holds these lists. -/
structure BookAt (w : World) (kb : Nat) (ts rs ss gs hs : List Value) : Prop where
  h : ∃ v1 v5 v10 v11 v12, Blk w kb (bookCells v1 v5 v10 v11 v12) 67 ∧ Own w 26 1 v1 ts.length ts ∧ Own w 79 1 v5 rs.length rs ∧ Own w 75 1 v10 ss.length ss ∧ Own w 29 1 v11 gs.length gs ∧ Own w 30 1 v12 hs.length hs ∧
    (∀ g, v1.ownBlock = some g → kb < g) ∧ (∀ g, v5.ownBlock = some g → kb < g) ∧ (∀ g, v10.ownBlock = some g → kb < g) ∧ (∀ g, v11.ownBlock = some g → kb < g) ∧ (∀ g, v12.ownBlock = some g → kb < g)
structure Booked (w : World) (kb : Nat) (ts rs ss gs hs : List Value) (w' : World) : Prop where
  book : BookAt w' kb ts rs ss gs hs
  below : Below kb w w'
  keep : Keep BT w w'
theorem BookAt.ext {w w' : World} {kb : Nat} {ts rs ss gs hs : List Value} (h : BookAt w kb ts rs ss gs hs) (e : Ext w w') : BookAt w' kb ts rs ss gs hs := by
  obtain ⟨v1, v5, v10, v11, v12, h1, h2, h3, h4, h5, h6, h7⟩ := h.h
  exact ⟨v1, v5, v10, v11, v12, h1.ext e, h2.ext e, h3.ext e, h4.ext e, h5.ext e, h6.ext e, h7⟩
theorem BookAt.lt {w : World} {kb : Nat} {ts rs ss gs hs : List Value} (h : BookAt w kb ts rs ss gs hs) : kb < w.heap.size := by
  obtain ⟨v1, v5, v10, v11, v12, h1, _⟩ := h.h
  exact h1.lt
theorem Booked.refl {w : World} {kb : Nat} {ts rs ss gs hs : List Value} (h : BookAt w kb ts rs ss gs hs) : Booked w kb ts rs ss gs hs w := ⟨h, Below.refl _ _, Keep.refl _ _⟩
theorem Booked.after {w0 w w' : World} {kb : Nat} {ts rs ss gs hs : List Value} (h : Booked w kb ts rs ss gs hs w') (e : Below kb w0 w) (k : Keep BT w0 w) : Booked w0 kb ts rs ss gs hs w' := ⟨h.book, e.trans h.below, k.trans h.keep⟩
theorem Booked.afterX {w0 w w' : World} {kb : Nat} {ts rs ss gs hs : List Value} (h : Booked w kb ts rs ss gs hs w') (e : Ext w0 w) (hk : kb ≤ w0.heap.size) : Booked w0 kb ts rs ss gs hs w' := h.after (Below.mono e hk) (.ext e _)
theorem Booked.ext {w w' w'' : World} {kb : Nat} {ts rs ss gs hs : List Value} (h : Booked w kb ts rs ss gs hs w') (e : Ext w' w'') : Booked w kb ts rs ss gs hs w'' := ⟨h.book.ext e, h.below.trans (Below.mono e (Nat.le_of_lt h.book.lt)), h.keep.trans (.ext e _)⟩
theorem bookTexts {w : World} {kb : Nat} {ts rs ss gs hs : List Value} {v : Value} (h : BookAt w kb ts rs ss gs hs) (hv1 : v.oneCell' = true) (hv2 : v.cells = #[v]) (hn : ts.length ≤ 3221225475) :
    Does Tryd.prog 56 [.pointer (some ⟨kb, 0, none⟩), v] w fun _ w' => Booked w kb (ts ++ [v]) rs ss gs hs w' := by
  obtain ⟨v1, v5, v10, v11, v12, hb, h1, h5, h10, h11, h12, l1, l5, l10, l11, l12⟩ := h.h
  refine D56 ?_
  unfold S56
  rw [nil_r, Pure.run (p_field (o := 0) fld67_1), ld1 hb one52 (o := 0 + 1) rfl]
  refine r_append1 sl52 h1 (by rw [hv2]; rfl) (by rw [hv2]; simpa using hv1) (by unfold maxLen; omega) (by omega) fun v' w3 hown hg => ?_
  have k3 : Keep [26] w w3 := .grow hg h1 _ (by simp)
  have hb3 := k3.blk _ _ _ (by decide) hb
  rw [nil_r, Pure.run (p_field (o := 0) fld67_1)]
  obtain ⟨o1, o2⟩ := hown.one
  refine r_store size52 (by rw [o2]) rfl (by simpa using o1) hb3 (show 0 + 1 + 1 ≤ 15 by decide) fun w4 c4 b4 => ?_
  have b4 : Blk w4 kb (bookCells v' v5 v10 v11 v12) 67 := b4
  have k4 : Keep [67] w3 w4 := .chg c4 hb3 _ (by simp)
  have hlt := hb.lt
  rw [hv2] at hown
  refine ⟨⟨v', v5, v10, v11, v12, b4, by simpa using hown.keepT k4 (by decide), (h5.keepT k3 (by decide)).keepT k4 (by decide), (h10.keepT k3 (by decide)).keepT k4 (by decide), (h11.keepT k3 (by decide)).keepT k4 (by decide), (h12.keepT k3 (by decide)).keepT k4 (by decide), ?_, l5, l10, l11, l12⟩, ?_, ?_⟩
  · exact hg.low (B := kb + 1) hlt l1
  · exact Go.V.Below.chg (hg.below (B := kb) (by omega) fun k hk => by have := l1 k hk; omega) c4 (Nat.le_refl _)
  · exact (k3.mono (by simp [BT])).trans (k4.mono (by simp [BT]))
theorem bookRows {w : World} {kb : Nat} {ts rs ss gs hs : List Value} {v : Value} (h : BookAt w kb ts rs ss gs hs) (hv1 : v.oneCell' = true) (hv2 : v.cells = #[v]) (hn : rs.length ≤ 3221225475) :
    Does Tryd.prog 75 [.pointer (some ⟨kb, 0, none⟩), v] w fun _ w' => Booked w kb ts (rs ++ [v]) ss gs hs w' := by
  obtain ⟨v1, v5, v10, v11, v12, hb, h1, h5, h10, h11, h12, l1, l5, l10, l11, l12⟩ := h.h
  refine D75 ?_
  unfold S75
  rw [nil_r, Pure.run (p_field (o := 0) fld67_5), ld1 hb one56 (o := 0 + 5) rfl]
  refine r_append1 sl56 h5 (by rw [hv2]; rfl) (by rw [hv2]; simpa using hv1) (by unfold maxLen; omega) (by omega) fun v' w3 hown hg => ?_
  have k3 : Keep [79] w w3 := .grow hg h5 _ (by simp)
  have hb3 := k3.blk _ _ _ (by decide) hb
  rw [nil_r, Pure.run (p_field (o := 0) fld67_5)]
  obtain ⟨o1, o2⟩ := hown.one
  refine r_store size56 (by rw [o2]) rfl (by simpa using o1) hb3 (show 0 + 5 + 1 ≤ 15 by decide) fun w4 c4 b4 => ?_
  have b4 : Blk w4 kb (bookCells v1 v' v10 v11 v12) 67 := b4
  have k4 : Keep [67] w3 w4 := .chg c4 hb3 _ (by simp)
  have hlt := hb.lt
  rw [hv2] at hown
  refine ⟨⟨v1, v', v10, v11, v12, b4, (h1.keepT k3 (by decide)).keepT k4 (by decide), by simpa using hown.keepT k4 (by decide), (h10.keepT k3 (by decide)).keepT k4 (by decide), (h11.keepT k3 (by decide)).keepT k4 (by decide), (h12.keepT k3 (by decide)).keepT k4 (by decide), l1, ?_, l10, l11, l12⟩, ?_, ?_⟩
  · exact hg.low (B := kb + 1) hlt l5
  · exact Go.V.Below.chg (hg.below (B := kb) (by omega) fun k hk => by have := l5 k hk; omega) c4 (Nat.le_refl _)
  · exact (k3.mono (by simp [BT])).trans (k4.mono (by simp [BT]))
theorem bookSignal {w : World} {kb : Nat} {ts rs ss gs hs : List Value} {v : Value} {x : DSig} (h : BookAt w kb ts rs ss gs hs) (hv1 : v.oneCell' = true) (hv2 : v.cells = #[v]) (hn : ts.length ≤ 3221225475) :
    Does Tryd.prog 78 [.pointer (some ⟨kb, 0, none⟩), x.agg v] w fun _ w' => Booked w kb (ts ++ [v]) rs ss gs hs w' := by
  refine D78 ?_
  unfold S78
  refine r_box fun w1 e1 z1 b1 => ?_
  have b1 : Blk w1 w.heap.size (x.pre ++ [v]) 130 := b1
  rw [Pure.run (p_field (o := 0) fld130_13), ld1 b1 one26 (o := 0 + 18) (v := v) rfl]
  refine GoN.does pl56 (bookTexts (h.ext e1) hv1 hv2 hn) ?_
  intro _ w2 h2
  exact h2.afterX e1 (Nat.le_of_lt h.lt)
theorem bookSignals {w : World} {kb lo hi : Nat} {ts rs ss gs hs tvs : List Value} {v : Value} {x : DMsg} (h : BookAt w kb ts rs ss gs hs) (ho : OMsg w lo hi x v tvs) (hx : OkMsg x) (hn : ts.length + x.sigs.length ≤ 3221225475) (hn' : ss.length ≤ 3221225475) :
    Does Tryd.prog 74 [.pointer (some ⟨kb, 0, none⟩), v] w fun _ w' => Booked w kb (ts ++ tvs) rs (ss ++ [v]) gs hs w' := by
  have hsig := hx.sigs
  obtain ⟨v1, v5, v10, v11, v12, hb, h1, h5, h10, h11, h12, l1, l5, l10, l11, l12⟩ := h.h
  obtain ⟨hv1, hv2⟩ := ho.own.one
  have hlen := ho.len
  refine D74 ?_
  unfold S74
  rw [nil_r, Pure.run (p_field (o := 0) fld67_10), ld1 hb one61 (o := 0 + 10) rfl]
  refine r_append1 sl61 h10 (by rw [hv2]; rfl) (by rw [hv2]; simpa using hv1) (by unfold maxLen; omega) (by omega) fun v' w3 hown hg => ?_
  have k3 : Keep [75] w w3 := .grow hg h10 _ (by simp)
  have hb3 := k3.blk _ _ _ (by decide) hb
  rw [nil_r, Pure.run (p_field (o := 0) fld67_10)]
  obtain ⟨o1, o2⟩ := hown.one
  refine r_store size61 (by rw [o2]) rfl (by simpa using o1) hb3 (show 0 + 10 + 1 ≤ 15 by decide) fun w4 c4 b4 => ?_
  have b4 : Blk w4 kb (bookCells v1 v5 v' v11 v12) 67 := b4
  have k4 : Keep [67] w3 w4 := .chg c4 hb3 _ (by simp)
  have hlt := hb.lt
  rw [hv2] at hown
  have h4 : Booked w kb ts rs (ss ++ [v]) gs hs w4 := by
    refine ⟨⟨v1, v5, v', v11, v12, b4, (h1.keepT k3 (by decide)).keepT k4 (by decide), (h5.keepT k3 (by decide)).keepT k4 (by decide), by simpa using hown.keepT k4 (by decide), (h11.keepT k3 (by decide)).keepT k4 (by decide), (h12.keepT k3 (by decide)).keepT k4 (by decide), l1, l5, ?_, l11, l12⟩, ?_, ?_⟩
    · exact hg.low (B := kb + 1) hlt l10
    · exact Go.V.Below.chg (hg.below (B := kb) (by omega) fun k hk => by have := l10 k hk; omega) c4 (Nat.le_refl _)
    · exact (k3.mono (by simp [BT])).trans (k4.mono (by simp [BT]))
  clear b4 hb3 k4 k3 c4 o1 o2 hown hg
  simp only [JoinP.eq]
  refine LoopP.of1 (fun i w' => ∃ k : Nat, k ≤ x.sigs.length ∧ i = .int .i64 k ∧ Booked w kb (ts ++ tvs.take k) rs (ss ++ [v]) gs hs w') (fun i _ => x.sigs.length - (intOf i).toNat)
    ⟨0, Nat.zero_le _, rfl, by simpa using h4⟩ ?_
  rintro i w5 ⟨k, hk, rfl, h5⟩
  obtain ⟨p, c, rfl, hpc⟩ := ho.own.len
  simp only [Pure.run (p_len sl75.slice), lss_r]
  refine CondP.dec (fun h => ?_) (fun h => ?_)
  · have hk' : k < x.sigs.length := by omega
    have ho5 := OMsg.keep ho h5.keep (by decide) (by decide)
    obtain ⟨s, hs⟩ : ∃ s, x.sigs[k]? = some s := ⟨x.sigs[k], by simp [hk']⟩
    obtain ⟨tv, htv⟩ : ∃ tv, tvs[k]? = some tv := ⟨tvs[k], by simp [hlen, hk']⟩
    obtain ⟨g, c', hgv, hnc, hat⟩ := ho5.own.at (by omega)
    injection hgv with hp1 hp2 hp3
    subst hp1; subst hp3
    have hzp : (x.sigs.zip tvs)[k]? = some (s, tv) := zip_get hs htv
    simp only [JoinP.eq]
    rw [Pure.run (p_idx (e := 130) (sz := 19) sl75.slice size130 (by omega) (by omega))]
    refine r_loadN agg130 (l := s.pre ++ [tv]) rfl (fun j u hj => ?_) ?_
    · have := hat (k * 19 + j) u (flat_get sigEl 19 _ k j _ u (fun q _ => sigEl_len q) hzp hj)
      rw [show 0 + (k : Int).toNat * 19 + j = 0 + (k * 19 + j) by simp]; exact this
    obtain ⟨t1, t2⟩ := (ho5.texts k s tv hs htv).one
    refine GoN.does pl78 (bookSignal h5.book t1 t2 (by simp; omega)) ?_
    intro _ w6 h6
    simp only [add_r]
    refine ⟨⟨k + 1, by omega, succ64 (by omega), ?_⟩, ?_⟩
    · have := h6.after h5.below h5.keep
      rw [List.append_assoc] at this
      rw [List.take_succ_eq_append_getElem (by omega)]
      rw [(List.getElem?_eq_some_iff.1 htv).2]
      exact this
    · rw [succ64 (by omega)]; simp [intOf]; omega
  · obtain rfl : k = x.sigs.length := by omega
    have ht : tvs.take x.sigs.length = tvs := List.take_of_length_le (by omega)
    rw [ht] at h5
    exact h5
theorem bookMessage {w : World} {kb lo hi : Nat} {ts rs ss gs hs tvs : List Value} {v : Value} {x : DMsg} (h : BookAt w kb ts rs ss gs hs) (ho : OMsg w lo hi x v tvs) (hx : OkMsg x) (hn : ts.length + x.sigs.length ≤ 3221225475) (hn' : ss.length ≤ 3221225475) :
    Does Tryd.prog 54 [.pointer (some ⟨kb, 0, none⟩), x.agg v] w fun _ w' => Booked w kb (ts ++ tvs) rs (ss ++ [v]) gs hs w' := by
  refine D54 ?_
  unfold S54
  refine r_box fun w1 e1 z1 b1 => ?_
  have b1 : Blk w1 w.heap.size (x.pre ++ [v]) 77 := b1
  rw [Pure.run (p_field (o := 0) fld77_6), ld1 b1 one75 (o := 0 + 7) (v := v) rfl]
  refine GoN.does pl74 (bookSignals (h.ext e1) (OMsg.ext ho e1) hx hn hn') ?_
  intro _ w2 h2
  exact h2.afterX e1 (Nat.le_of_lt h.lt)
theorem bookStations {w : World} {kb : Nat} {ts rs ss gs hs : List Value} {v : Value} {x : DSta} (h : BookAt w kb ts rs ss gs hs) (hv1 : v.oneCell' = true) (hv2 : v.cells = #[v]) (hn : ts.length ≤ 3221225475) :
    Does Tryd.prog 30 [.pointer (some ⟨kb, 0, none⟩), x.agg v] w fun _ w' => Booked w kb (ts ++ [v]) rs ss gs hs w' := by
  refine D30 ?_
  unfold S30
  refine r_box fun w1 e1 z1 b1 => ?_
  have b1 : Blk w1 w.heap.size (x.pre ++ [v]) 28 := b1
  rw [Pure.run (p_field (o := 0) fld28_1), ld1 b1 one26 (o := 0 + 2) (v := v) rfl]
  refine GoN.does pl56 (bookTexts (h.ext e1) hv1 hv2 hn) ?_
  intro _ w2 h2
  exact h2.afterX e1 (Nat.le_of_lt h.lt)
theorem bookTable {w : World} {kb : Nat} {ts rs ss gs hs : List Value} {v : Value} {x : DTab} (h : BookAt w kb ts rs ss gs hs) (hv1 : v.oneCell' = true) (hv2 : v.cells = #[v]) (hn : rs.length ≤ 3221225475) :
    Does Tryd.prog 55 [.pointer (some ⟨kb, 0, none⟩), x.agg v] w fun _ w' => Booked w kb ts (rs ++ [v]) ss gs hs w' := by
  refine D55 ?_
  unfold S55
  refine r_box fun w1 e1 z1 b1 => ?_
  have b1 : Blk w1 w.heap.size (x.pre ++ [v]) 81 := b1
  rw [Pure.run (p_field (o := 0) fld81_4), ld1 b1 one79 (o := 0 + 5) (v := v) rfl]
  refine GoN.does pl75 (bookRows (h.ext e1) hv1 hv2 hn) ?_
  intro _ w2 h2
  exact h2.afterX e1 (Nat.le_of_lt h.lt)
end Go.Proofs.YtmgleeoecdodjaaDoor.Sh
