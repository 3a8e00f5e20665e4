/- Lists of texts and rows that are lent with marks behind them. Conditions: lengths up to 2^30. -/
import Derived.Test.YtmgleeoecdodjaaTr
import Derived.Test.YtmgleeoecdodjaaTp
import Derived.Test.YtmgleeoecdodjaaV13
set_option linter.unusedVariables false
set_option linter.unusedSimpArgs false
set_option maxRecDepth 10000
namespace Go.Proofs.Ytmgleeoecdodjaa.Sh
open Go Go.V Go.RowKit

theorem lendTexts {m : Mem} {l : Value} {xs : List ByteArray} {w : World} (hm : Sub m w) (hl : Texts m l xs) (hn : xs.length ≤ 1073741824) :
    Does Try.prog 51 [l] w (Lent (fun v M => LTexts M v xs) w) := by
  have hf := fullTexts hm hl hn
  obtain ⟨p, c, rfl, hc⟩ := hl.form
  refine D51 ?_
  unfold S51
  refine GoN.does pl76 hf ?_
  rintro v w' ⟨he, hown, hlow⟩
  rw [marks_flat, strs_flat] at hown
  obtain ⟨g, c', rfl, hc', hL⟩ := hown.lslG (R := RTxt) (fun _ _ => rfl) (fun _ => rfl) (fun _ _ => rfl)
  simp only [Pure.run (p_len sl26.slice)]
  rw [Pure.run (p_upto sl26.slice size9 (by omega) (by omega))]
  exact ⟨rfl, rfl, he, _, Sub.memG w' g, Low.memG (hlow g rfl), hL⟩
/-- FullRows: the list, and sixteen marks behind it, in a row of their own. -/
theorem fullRows {m : Mem} {l : Value} {xs : List DRow} {w : World} (hm : Sub m w) (hl : Rows m l xs) (hn : xs.length ≤ 1073741824) :
    Does Try.prog 81 [l] w fun v w' => Ext w w' ∧ Own w' 122 2 v (xs.length + 16) (rowCells xs ++ marks mkR 90 16) ∧ ∀ g, v.ownBlock = some g → w.heap.size ≤ g := by
  obtain ⟨p, c, rfl, hc⟩ := hl.form
  refine D81 ?_
  unfold S81
  simp only [JoinP.eq]
  refine LoopP.of2 (fun out i w' => ∃ k : Nat, k ≤ xs.length ∧ i = .int .i64 k ∧ Own w' 122 2 out k (rowCells (xs.take k)) ∧ (∀ g, out.ownBlock = some g → w.heap.size ≤ g) ∧ Ext w w') (fun _ i _ => xs.length - (intOf i).toNat)
    ⟨0, Nat.zero_le _, rfl, Own.nil _ _ _, (fun g h => by simp [Value.ownBlock] at h), Ext.refl _⟩ ?_
  rintro out i w' ⟨k, hk, rfl, hown, hlow, hext⟩
  simp only [Pure.run (p_len sl77.slice), lss_r]
  refine CondP.dec (fun h => ?_) (fun h => ?_)
  · have hk' : k < xs.length := by omega
    obtain ⟨s, hs⟩ : ∃ s, xs[k]? = some s := ⟨xs[k], by simp [hk']⟩
    obtain ⟨b, o, cs, rfl, _, _, _, hat, rfl⟩ := hl.get hs
    simp only [Pure.run (p_idx (k := .i64) (i := (k : Int)) (b := b) (o := o) (n := xs.length) (c := c) sl77.slice size122 (by omega) (by omega))]
    refine r_loadN agg122 rfl (hat w' (hm.ext hext)) ?_
    refine r_append1 sl77 hown rfl (all_one rfl) (by unfold maxLen; omega) (by omega) fun v' w'' h2 h3 => ?_
    simp only [add_r]
    refine ⟨⟨k + 1, by omega, succ64 (by omega), ?_, h3.low hext.size hlow, Below.trans hext (h3.below hext.size hlow)⟩, ?_⟩
    · have := flat_take DRow.cells hs
      rw [rowCells, this]; exact h2
    · rw [succ64 (by omega)]; simp [intOf]; omega
  · obtain rfl : k = xs.length := by omega
    rw [List.take_length] at hown
    refine LoopP.of2 (fun out i w' => ∃ k : Nat, k ≤ 16 ∧ i = .int .i64 k ∧ Own w' 122 2 out (xs.length + k) (rowCells xs ++ marks mkR 90 k) ∧ (∀ g, out.ownBlock = some g → w.heap.size ≤ g) ∧ Ext w w') (fun _ i _ => 16 - (intOf i).toNat)
      ⟨0, by omega, rfl, by simpa [marks] using hown, hlow, hext⟩ ?_
    clear hown hlow hext
    rintro out i w' ⟨k, hk, rfl, hown, hlow, hext⟩
    simp only [lss_r]
    refine CondP.dec (fun h => ?_) (fun h => ?_)
    · refine GoN.does pl67 (markRows 90 k w') ?_
      rintro _ w1 ⟨rfl, he1⟩
      refine r_append1 sl77 (hown.ext he1) rfl (all_one rfl) (by unfold maxLen; omega) (by omega) fun v' w'' h2 h3 => ?_
      simp only [add_r]
      have hsz : w.heap.size ≤ w1.heap.size := Nat.le_trans hext.size he1.size
      refine ⟨⟨k + 1, by omega, succ64 (by omega), ?_, h3.low hsz hlow, Below.trans (hext.trans he1) (h3.below hsz hlow)⟩, ?_⟩
      · rw [Go.V.marks_succ, ← List.append_assoc]; exact h2
      · rw [succ64 (by omega)]; simp [intOf]; omega
    · obtain rfl : k = 16 := by omega
      exact ⟨hext, hown, hlow⟩

def markRw (i : Nat) : List Value := mkR 90 i
abbrev LRows (m : Mem) (v : Value) (l : List DRow) : Prop := LSl m 2 RRow markRw v l
theorem lendRows {m : Mem} {l : Value} {xs : List DRow} {w : World} (hm : Sub m w) (hl : Rows m l xs) (hn : xs.length ≤ 1073741824) :
    Does Try.prog 75 [l] w (Lent (fun v M => LRows M v xs) w) := by
  have hf := fullRows hm hl hn
  obtain ⟨p, c, rfl, hc⟩ := hl.form
  refine D75 ?_
  unfold S75
  refine GoN.does pl81 hf ?_
  rintro v w' ⟨he, hown, hlow⟩
  have hown : Own w' 122 2 v (xs.length + 16) (xs.flatMap DRow.cells ++ (List.range 16).flatMap markRw) := hown
  obtain ⟨g, c', rfl, hc', hL⟩ := hown.lslG (R := RRow) (fun _ _ => rfl) (fun _ => rfl) (fun _ _ => rfl)
  simp only [Pure.run (p_len sl77.slice)]
  rw [Pure.run (p_upto sl77.slice size122 (by omega) (by omega))]
  exact ⟨rfl, rfl, he, _, Sub.memG w' g, Low.memG (hlow g rfl), hL⟩
theorem keptFullRows {m m' : Mem} {l : Value} {xs : List DRow} {w : World} {b c : Nat} (hm : Sub m w) (hm' : Sub m' w) (hl : Rows m l xs) (hn : xs.length ≤ 1073741824)
    (ho : LRows m' (.slice (some ⟨b, 0, none⟩) xs.length c) xs) :
    Does Try.prog 83 [.slice (some ⟨b, 0, none⟩) (xs.length + 16) c, l] w (Yes w) := by
  obtain ⟨p, cl, rfl, hcl⟩ := hl.form
  obtain ⟨b', c', e, hc, h1, h2⟩ := ho.h
  injection e with e1 e2 e3
  injection e1 with e1
  injection e1 with e1
  subst e1; subst e3
  refine D83 ?_
  unfold S83
  simp only [Pure.run (p_len sl77.slice), JoinP.eq, PickP.eq, GuardP.yes, GuardP.undef, GuardP.no (show (true == false) = false from rfl), GuardP.no (show (false == true) = false from rfl), CondP.tt, CondP.ff, add_r, sub_r, mul_r, lss_r, leq_r, gtr_r, geq_r, eql_r, neq_r, eqs_r, nes_r, not_r, nil_r, Bool.not_true, Bool.not_false, if_true, if_false, Bool.false_eq_true, decide_true, decide_false, Nat.zero_add, Bool.and_true, Bool.true_and]
  rw [wrap64_id (by omega) (by omega)]
  simp only [Int.natCast_add, Int.cast_ofNat_Int, decide_true, JoinP.eq, PickP.eq, GuardP.yes, GuardP.undef, GuardP.no (show (true == false) = false from rfl), GuardP.no (show (false == true) = false from rfl), CondP.tt, CondP.ff, add_r, sub_r, mul_r, lss_r, leq_r, gtr_r, geq_r, eql_r, neq_r, eqs_r, nes_r, not_r, nil_r, Bool.not_true, Bool.not_false, if_true, if_false, Bool.false_eq_true, decide_true, decide_false, Nat.zero_add, Bool.and_true, Bool.true_and]
  refine LoopP.of2 (fun r i w' => ∃ k : Nat, k ≤ xs.length + 16 ∧ i = .int .i64 k ∧ Ext w w') (fun _ i _ => xs.length + 16 - (intOf i).toNat) ⟨0, by omega, rfl, Ext.refl _⟩ ?_
  rintro r i w' ⟨k, hk, rfl, hext⟩
  simp only [Pure.run (p_len sl77.slice), lss_r]
  refine CondP.dec (fun h => ?_) (fun h => ?_)
  · have hkc : k < xs.length + 16 := by omega
    try simp only [Pure.run (p_len sl77.slice), sub_r]
    rw [wrap64_id (by omega) (by omega)]
    refine GoN.does pl67 (markRows 90 _ w') ?_
    rintro _ w1 ⟨rfl, he1⟩
    refine r_alloc zero122 fun w2 e2 z2 b2 => ?_
    refine r_store size122 (l := rowM 90 ((k : Int) - xs.length)) rfl rfl (all_one rfl) b2 (by decide) fun w3 c3 b3 => ?_
    have b3 : Blk w3 w1.heap.size (rowM 90 ((k : Int) - xs.length)) 122 := b3
    have hext3 : Ext w w3 := (hext.trans he1).trans (e2.chg c3 (Nat.le_refl _))
    try simp only [Pure.run (p_len sl77.slice), lss_r]
    have step : ∀ (a : Int) (t : ByteArray) w4, Ext w w4 → Blk w4 w1.heap.size [.int .i64 a, .string t] 122 → At w4 b (k * 2) [.int .i64 a, .string t] → (∀ w21, Ext w4 w21 →
        RunQ Try.prog (Instr.indexAt 77 (.slice (some ⟨b, 0, none⟩) (xs.length + 16) c) (.int .i64 (k : Int))) w21 fun t34 =>
        RunQ Try.prog (Instr.loadAt 122 t34) w21 fun t35 =>
        RunQ Try.prog (Instr.loadAt 122 (.pointer (some ⟨w1.heap.size, 0, none⟩))) w21 fun t36 =>
        RunQ Try.prog (binSem .neq 122 (.tmp 35) (.tmp 36) t35 t36) w21 fun t37 =>
        CondP t37 1 (fun (k10 : N1) => Yes w (.bool false) w21) (fun (k11 : N1) => k11 r w21)
        (fun (t4 : Value) (w22 : World) => Run Try.prog (binSem .add 3 (.tmp 17) (.const (.int .i64 1)) (.int .i64 (k : Int)) (.int .i64 1)) w22 fun t18 w23 =>
          (∃ k : Nat, k ≤ xs.length + 16 ∧ t18 = .int .i64 k ∧ Ext w w23) ∧ xs.length + 16 - (intOf t18).toNat < xs.length + 16 - (intOf (.int .i64 (k : Int))).toNat)) := by
      intro a t w4 h4 hb4 hat4 w5 f5
      rw [Pure.runQ (pIdx (c := c) (n := xs.length + 16) sl77.slice size122 hkc), ldAQ agg122 rfl (hat4.ext f5), ldNQ (hb4.ext f5) agg122 (o := 0) rfl]
      simp only [List.drop_zero, List.take_succ_cons, List.take_zero, Pure.runQ nes122, PickQ.eq, GuardQ.yes, GuardQ.undef, GuardQ.no (show (true == false) = false from rfl), GuardQ.no (show (false == true) = false from rfl), eql_q, neq_q, lss_q, add_q, sub_q, eqs_q, nes_q, not_q, JoinP.eq, PickP.eq, GuardP.yes, GuardP.undef, GuardP.no (show (true == false) = false from rfl), GuardP.no (show (false == true) = false from rfl), CondP.tt, CondP.ff, add_r, sub_r, mul_r, lss_r, leq_r, gtr_r, geq_r, eql_r, neq_r, eqs_r, nes_r, not_r, nil_r, Bool.not_true, Bool.not_false, if_true, if_false, Bool.false_eq_true, decide_true, decide_false, Nat.zero_add, Bool.and_true, Bool.true_and]
      refine ⟨⟨k + 1, by omega, succ64 (by omega), h4.trans f5⟩, ?_⟩
      rw [succ64 (by omega)]; simp [intOf]; omega
    refine CondP.dec (fun h' => ?_) (fun h' => ?_)
    · have hk' : k < xs.length := by omega
      obtain ⟨s, hs⟩ : ∃ s, xs[k]? = some s := ⟨xs[k], by simp [hk']⟩
      obtain ⟨bl, ol, cs, rfl, _, _, _, hat, rfl⟩ := hl.get hs
      rw [Pure.run (p_idx (e := 122) (sz := 2) sl77.slice size122 (by omega) (by omega))]
      refine r_loadN agg122 rfl (hat w3 (hm.ext hext3)) ?_
      refine r_store size122 (l := s.cells) rfl rfl (one_row _ s rfl) b3 (show 0 + 2 ≤ 2 by decide) fun w4 c4 b4 => ?_
      have b4 : Blk w4 w1.heap.size [.int .i64 s.value, .string s.text] 122 := b4
      have s1 := (hext.trans he1).size
      have hx4 : Ext w w4 := hext3.chg c4 s1
      obtain ⟨cs, _, hc1, rfl⟩ := h1 k s hs
      exact step _ _ w4 hx4 b4 fun j u hj => (hm'.ext hx4) _ _ _ (hc1 j u hj)
    · have hk2 : k - xs.length < 16 := by omega
      refine step _ _ w3 hext3 b3 fun j u hj => (hm'.ext hext3) _ _ _ ?_
      have := h2 (k - xs.length) hk2 j u (by
        have : markRw (k - xs.length) = rowM 90 ((k : Int) - xs.length) := by
          show rowM _ _ = _
          congr 1; omega
        rw [this]; exact hj)
      rw [show (xs.length + (k - xs.length)) * 2 + j = k * 2 + j by omega] at this
      exact this
  · exact ⟨rfl, hext⟩
theorem keptRows {m m' : Mem} {o l : Value} {xs : List DRow} {w : World} (hm : Sub m w) (hm' : Sub m' w) (hl : Rows m l xs) (hn : xs.length ≤ 1073741824) (ho : LRows m' o xs) :
    Does Try.prog 78 [o, l] w (Yes w) := by
  obtain ⟨b, c, rfl, hc, _, _⟩ := ho.h
  have hkf := keptFullRows hm hm' hl hn ho
  obtain ⟨p, cl, rfl, hcl⟩ := hl.form
  refine D78 ?_
  unfold S78
  simp only [Pure.run (p_len sl77.slice), JoinP.eq, PickP.eq, GuardP.yes, GuardP.undef, GuardP.no (show (true == false) = false from rfl), GuardP.no (show (false == true) = false from rfl), CondP.tt, CondP.ff, add_r, sub_r, mul_r, lss_r, leq_r, gtr_r, geq_r, eql_r, neq_r, eqs_r, nes_r, not_r, nil_r, Bool.not_true, Bool.not_false, if_true, if_false, Bool.false_eq_true, decide_true, decide_false, Nat.zero_add, Bool.and_true, Bool.true_and]
  rw [wrap64_id (by omega) (by omega)]
  rw [Pure.run (p_upto sl77.slice size122 (by omega) (by omega))]
  rw [show ((xs.length : Int) + 16).toNat = xs.length + 16 by omega]
  exact GoN.does pl83 hkf fun v w' h => h
end Go.Proofs.Ytmgleeoecdodjaa.Sh
