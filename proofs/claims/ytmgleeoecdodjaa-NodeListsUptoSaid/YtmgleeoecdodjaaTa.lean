/- Lists of texts: marks, lists that are lent with marks behind them, and whether they were kept. Conditions: lengths up to 2^30. -/
import Derived.Test.YtmgleeoecdodjaaFa
import Derived.Test.YtmgleeoecdodjaaV10
import Derived.Test.YtmgleeoecdodjaaSh
set_option linter.unusedVariables false
set_option linter.unusedSimpArgs false
set_option maxRecDepth 10000
namespace Go.Proofs.Ytmgleeoecdodjaa.Sh
open Go Go.V Go.RowKit

/-- The bytes of a mark. -/
def markL (k i : Int) : List Int := [35, IntKind.u8.wrap k, IntKind.u8.wrap (k.fdiv (2 ^ (min (Int.toNat 8) IntKind.i64.bits))), IntKind.u8.wrap i, IntKind.u8.wrap (i.fdiv (2 ^ (min (Int.toNat 8) IntKind.i64.bits)))]
def markT (k i : Int) : ByteArray := bytesOf (markL k i)
theorem lit5 (a b c d : Int) (w : World) : (Instr.buildSlice 127 5 #[(0, (Go.Value.int Go.IntKind.u8 35)), (1, .int .u8 a), (2, .int .u8 b), (3, .int .u8 c), (4, .int .u8 d)]).run Try.prog w =
    .ok (.slice (some ⟨w.heap.size, 0, none⟩) 5 5) (w.alloc (.cells [.int .u8 35, .int .u8 a, .int .u8 b, .int .u8 c, .int .u8 d].toArray 5)) := by kernel_rfl
theorem markText (k i : Int) (w : World) : Does Try.prog 71 [.int .i64 k, .int .i64 i] w fun v w' => v = .string (markT k i) ∧ Ext w w' := by
  refine D71 ?_
  unfold S71
  simp only [Pure.run (p_conv Try.underlying3 Try.underlying5), Pure.run (p_shr (show (0 : Int) ≤ 8 by decide))]
  refine r_lit (lit5 _ _ _ _ w) fun w' he _ hb => ?_
  refine r_bytesString (ns := markL k i) sl127.slice Try.underlying5 Try.underlying9 (by have := hb.at; exact this) rfl ⟨rfl, he⟩
theorem markTexts (k i : Int) (w : World) : Does Try.prog 63 [.int .i64 k, .int .i64 i] w fun v w' => v = .string (markT k i) ∧ Ext w w' := by
  refine D63 ?_
  unfold S63
  exact GoN.does pl71 (markText k i w) fun v w' h => h

def strs (l : List ByteArray) : List Value := l.map Value.string
def marksT (k : Int) (n : Nat) : List ByteArray := (List.range n).map fun (i : Nat) => markT k (i : Int)
abbrev RTxt (cs : List Value) (s : ByteArray) : Prop := cs = [.string s]
abbrev Texts (m : Mem) (v : Value) (l : List ByteArray) : Prop := Sl m 1 RTxt v l
theorem strs_len (l : List ByteArray) : (strs l).length = l.length := by simp [strs]
theorem strs_snoc (l : List ByteArray) (k : Nat) (s : ByteArray) (h : l[k]? = some s) : strs (l.take k) ++ [Value.string s] = strs (l.take (k + 1)) := by
  rw [List.take_succ_eq_append_getElem (List.getElem?_eq_some_iff.1 h).1, (List.getElem?_eq_some_iff.1 h).2]
  simp [strs]
theorem strs_flat (l : List ByteArray) : strs l = l.flatMap fun s => [Value.string s] := by
  induction l with
  | nil => rfl
  | cons x l ih => simp [strs] at ih ⊢; exact ih
theorem marks_succ (k : Int) (n : Nat) : marksT k (n + 1) = marksT k n ++ [markT k n] := by simp [marksT, List.range_succ]

/-- FullTexts: the list, and sixteen marks behind it, in a row of their own. -/
theorem fullTexts {m : Mem} {l : Value} {xs : List ByteArray} {w : World} (hm : Sub m w) (hl : Texts m l xs) (hn : xs.length ≤ 1073741824) :
    Does Try.prog 76 [l] w fun v w' => Ext w w' ∧ Own w' 9 1 v (xs.length + 16) (strs xs ++ strs (marksT 90 16)) ∧ ∀ g, v.ownBlock = some g → w.heap.size ≤ g := by
  obtain ⟨p, c, rfl, hc⟩ := hl.form
  refine D76 ?_
  unfold S76
  simp only [JoinP.eq]
  refine LoopP.of2 (fun out i w' => ∃ k : Nat, k ≤ xs.length ∧ i = .int .i64 k ∧ Own w' 9 1 out k (strs (xs.take k)) ∧ (∀ g, out.ownBlock = some g → w.heap.size ≤ g) ∧ Ext w w') (fun _ i _ => xs.length - (intOf i).toNat)
    ⟨0, Nat.zero_le _, rfl, Own.nil _ _ _, (fun g h => by simp [Value.ownBlock] at h), Ext.refl _⟩ ?_
  rintro out i w' ⟨k, hk, rfl, hown, hlow, hext⟩
  simp only [Pure.run (p_len sl26.slice), lss_r]
  refine CondP.dec (fun h => ?_) (fun h => ?_)
  · have hk' : k < xs.length := by omega
    obtain ⟨s, hs⟩ : ∃ s, xs[k]? = some s := ⟨xs[k], by simp [hk']⟩
    obtain ⟨b, o, cs, rfl, _, _, _, hat, rfl⟩ := hl.get hs
    simp only [Pure.run (p_idx (k := .i64) (i := (k : Int)) (b := b) (o := o) (n := xs.length) (c := c) sl26.slice size9 (by omega) (by omega))]
    refine r_load1 one9 (hat w' (hm.ext hext) 0 _ rfl) ?_
    refine r_append1 sl26 hown rfl (by simp [Value.cells, Value.oneCell']) (by unfold maxLen; omega) (by omega) fun v' w'' h2 h3 => ?_
    simp only [add_r]
    refine ⟨⟨k + 1, by omega, succ64 (by omega), ?_, h3.low hext.size hlow, Below.trans hext (h3.below hext.size hlow)⟩, ?_⟩
    · have := strs_snoc xs k s hs
      rw [← this]; exact h2
    · rw [succ64 (by omega)]; simp [intOf]; omega
  · obtain rfl : k = xs.length := by omega
    rw [List.take_length] at hown
    refine LoopP.of2 (fun out i w' => ∃ k : Nat, k ≤ 16 ∧ i = .int .i64 k ∧ Own w' 9 1 out (xs.length + k) (strs xs ++ strs (marksT 90 k)) ∧ (∀ g, out.ownBlock = some g → w.heap.size ≤ g) ∧ Ext w w') (fun _ i _ => 16 - (intOf i).toNat)
      ⟨0, by omega, rfl, by simpa [marksT, strs] using hown, hlow, hext⟩ ?_
    clear hown hlow hext
    rintro out i w' ⟨k, hk, rfl, hown, hlow, hext⟩
    simp only [lss_r]
    refine CondP.dec (fun h => ?_) (fun h => ?_)
    · refine GoN.does pl63 (markTexts 90 k w') ?_
      rintro _ w1 ⟨rfl, he1⟩
      refine r_append1 sl26 (hown.ext he1) rfl (by simp [Value.cells, Value.oneCell']) (by unfold maxLen; omega) (by omega) fun v' w'' h2 h3 => ?_
      simp only [add_r]
      have hsz : w.heap.size ≤ w1.heap.size := Nat.le_trans hext.size he1.size
      refine ⟨⟨k + 1, by omega, succ64 (by omega), ?_, h3.low hsz hlow, Below.trans (hext.trans he1) (h3.below hsz hlow)⟩, ?_⟩
      · rw [marks_succ]
        have : strs xs ++ strs (marksT 90 k) ++ (Value.string (markT 90 k)).cells.toList = strs xs ++ strs (marksT 90 k ++ [markT 90 k]) := by simp [strs, Value.cells]
        rw [← this]; exact h2
      · rw [succ64 (by omega)]; simp [intOf]; omega
    · obtain rfl : k = 16 := by omega
      exact ⟨hext, hown, hlow⟩

def markTx (i : Nat) : List Value := [.string (markT 90 i)]
abbrev LTexts (m : Mem) (v : Value) (l : List ByteArray) : Prop := LSl m 1 RTxt markTx v l
theorem marks_flat : strs (marksT 90 16) = (List.range 16).flatMap markTx := by
  simp only [strs, marksT, List.map_map]
  rw [← List.flatMap_singleton' ((List.range 16).map _), List.flatMap_map]
  rfl
theorem lentTexts {m : Mem} {l : Value} {xs : List ByteArray} {w : World} (hm : Sub m w) (hl : Texts m l xs) (hn : xs.length ≤ 1073741824) :
    Does Try.prog 51 [l] w fun v w' => Ext w w' ∧ LTexts (memW w') v xs := by
  have hf := fullTexts hm hl hn
  obtain ⟨p, c, rfl, hc⟩ := hl.form
  refine D51 ?_
  unfold S51
  refine GoN.does pl76 hf ?_
  rintro v w' ⟨he, hown, _⟩
  rw [marks_flat, strs_flat] at hown
  obtain ⟨p', c', rfl, hc', hL⟩ := hown.lsl (R := RTxt) (fun _ _ => rfl) (fun _ => rfl) (fun _ _ => rfl)
  simp only [Pure.run (p_len sl26.slice)]
  rw [Pure.run (p_upto sl26.slice size9 (by omega) (by omega))]
  exact ⟨he, hL⟩
theorem keptFullTexts {m m' : Mem} {l : Value} {xs : List ByteArray} {w : World} {b c : Nat} (hm : Sub m w) (hm' : Sub m' w) (hl : Texts m l xs) (hn : xs.length ≤ 1073741824)
    (ho : LTexts m' (.slice (some ⟨b, 0, none⟩) xs.length c) xs) :
    Does Try.prog 79 [.slice (some ⟨b, 0, none⟩) (xs.length + 16) c, l] w (Yes w) := by
  obtain ⟨p, cl, rfl, hcl⟩ := hl.form
  obtain ⟨b', c', e, hc, h1, h2⟩ := ho.h
  injection e with e1 e2 e3
  injection e1 with e1
  injection e1 with e1
  subst e1; subst e3
  refine D79 ?_
  unfold S79
  simp only [Pure.run (p_len sl26.slice), JoinP.eq, PickP.eq, GuardP.yes, GuardP.undef, GuardP.no (show (true == false) = false from rfl), GuardP.no (show (false == true) = false from rfl), CondP.tt, CondP.ff, add_r, sub_r, mul_r, lss_r, leq_r, gtr_r, geq_r, eql_r, neq_r, eqs_r, nes_r, not_r, nil_r, Bool.not_true, Bool.not_false, if_true, if_false, Bool.false_eq_true, decide_true, decide_false, Nat.zero_add, Bool.and_true, Bool.true_and]
  rw [wrap64_id (by omega) (by omega)]
  simp only [Int.natCast_add, Int.cast_ofNat_Int, decide_true, JoinP.eq, PickP.eq, GuardP.yes, GuardP.undef, GuardP.no (show (true == false) = false from rfl), GuardP.no (show (false == true) = false from rfl), CondP.tt, CondP.ff, add_r, sub_r, mul_r, lss_r, leq_r, gtr_r, geq_r, eql_r, neq_r, eqs_r, nes_r, not_r, nil_r, Bool.not_true, Bool.not_false, if_true, if_false, Bool.false_eq_true, decide_true, decide_false, Nat.zero_add, Bool.and_true, Bool.true_and]
  refine LoopP.of2 (fun r i w' => ∃ k : Nat, k ≤ xs.length + 16 ∧ i = .int .i64 k ∧ Ext w w') (fun _ i _ => xs.length + 16 - (intOf i).toNat) ⟨0, by omega, rfl, Ext.refl _⟩ ?_
  rintro r i w' ⟨k, hk, rfl, hext⟩
  simp only [Pure.run (p_len sl26.slice), lss_r]
  refine CondP.dec (fun h => ?_) (fun h => ?_)
  · try simp only [Pure.run (p_len sl26.slice), sub_r]
    rw [wrap64_id (by omega) (by omega)]
    refine GoN.does pl63 (markTexts 90 _ w') ?_
    rintro _ w1 ⟨rfl, he1⟩
    have hext1 := hext.trans he1
    try simp only [Pure.run (p_len sl26.slice), lss_r]
    have step : ∀ s, w1.cell? ⟨b, k, none⟩ = some (.string s) → (Run Try.prog (Instr.indexAt 26 (.slice (some ⟨b, 0, none⟩) (xs.length + 16) c) (.int .i64 (k : Int))) w1 fun t34 w18 =>
        Run Try.prog (Instr.loadAt 9 t34) w18 fun t35 w19 =>
        Run Try.prog (binSem .neq 9 (.tmp 35) (.tmp 36) t35 (.string s)) w19 fun t37 w20 =>
        CondP t37 1 (fun (k10 : N1) => Yes w (.bool false) w20) (fun (k11 : N1) => k11 r w20)
        (fun (t4 : Value) (w21 : World) => Run Try.prog (binSem .add 3 (.tmp 17) (.const (.int .i64 1)) (.int .i64 (k : Int)) (.int .i64 1)) w21 fun t18 w23 =>
          (∃ k : Nat, k ≤ xs.length + 16 ∧ t18 = .int .i64 k ∧ Ext w w23) ∧ xs.length + 16 - (intOf t18).toNat < xs.length + 16 - (intOf (.int .i64 (k : Int))).toNat)) := by
      intro s hs
      rw [Pure.run (p_idx (e := 9) (sz := 1) sl26.slice size9 (by omega) (by omega))]
      refine r_load1 one9 (by simpa using hs) ?_
      simp only [decide_true, JoinP.eq, PickP.eq, GuardP.yes, GuardP.undef, GuardP.no (show (true == false) = false from rfl), GuardP.no (show (false == true) = false from rfl), CondP.tt, CondP.ff, add_r, sub_r, mul_r, lss_r, leq_r, gtr_r, geq_r, eql_r, neq_r, eqs_r, nes_r, not_r, nil_r, Bool.not_true, Bool.not_false, if_true, if_false, Bool.false_eq_true, decide_true, decide_false, Nat.zero_add, Bool.and_true, Bool.true_and]
      refine ⟨⟨k + 1, by omega, succ64 (by omega), hext1⟩, ?_⟩
      rw [succ64 (by omega)]; simp [intOf]; omega
    refine CondP.dec (fun h' => ?_) (fun h' => ?_)
    · have hk' : k < xs.length := by omega
      obtain ⟨s, hs⟩ : ∃ s, xs[k]? = some s := ⟨xs[k], by simp [hk']⟩
      obtain ⟨bl, ol, cs, rfl, _, _, _, hat, rfl⟩ := hl.get hs
      rw [Pure.run (p_idx (e := 9) (sz := 1) sl26.slice size9 (by omega) (by omega))]
      refine r_load1 one9 (hat w1 (hm.ext hext1) 0 _ rfl) ?_
      obtain ⟨cs, _, hc1, rfl⟩ := h1 k s hs
      exact step s ((hm'.ext hext1) _ _ _ (by have := hc1 0 _ rfl; simpa using this))
    · have hk2 : k - xs.length < 16 := by omega
      have := h2 (k - xs.length) hk2 0 _ rfl
      refine step _ ((hm'.ext hext1) _ _ _ ?_)
      rw [show (xs.length + (k - xs.length)) * 1 + 0 = k by omega] at this
      rw [this]
      simp only [Option.some.injEq, Value.string.injEq]
      congr 1
      omega
  · exact ⟨rfl, hext⟩
theorem keptTexts {m m' : Mem} {o l : Value} {xs : List ByteArray} {w : World} (hm : Sub m w) (hm' : Sub m' w) (hl : Texts m l xs) (hn : xs.length ≤ 1073741824) (ho : LTexts m' o xs) :
    Does Try.prog 59 [o, l] w (Yes w) := by
  obtain ⟨b, c, rfl, hc, _, _⟩ := ho.h
  have hkf := keptFullTexts hm hm' hl hn ho
  obtain ⟨p, cl, rfl, hcl⟩ := hl.form
  refine D59 ?_
  unfold S59
  simp only [Pure.run (p_len sl26.slice), JoinP.eq, PickP.eq, GuardP.yes, GuardP.undef, GuardP.no (show (true == false) = false from rfl), GuardP.no (show (false == true) = false from rfl), CondP.tt, CondP.ff, add_r, sub_r, mul_r, lss_r, leq_r, gtr_r, geq_r, eql_r, neq_r, eqs_r, nes_r, not_r, nil_r, Bool.not_true, Bool.not_false, if_true, if_false, Bool.false_eq_true, decide_true, decide_false, Nat.zero_add, Bool.and_true, Bool.true_and]
  rw [wrap64_id (by omega) (by omega)]
  rw [Pure.run (p_upto sl26.slice size9 (by omega) (by omega))]
  rw [show ((xs.length : Int) + 16).toNat = xs.length + 16 by omega]
  exact GoN.does pl79 hkf fun v w' h => h
theorem sameTexts {m m' : Mem} {a b : Value} {xs : List ByteArray} {w : World} (hm : Sub m w) (hm' : Sub m' w) (ha : Texts m a xs) (hb : Texts m' b xs) (hn : xs.length ≤ 1073741824) :
    Does Try.prog 55 [a, b] w (Yes w) := by
  obtain ⟨p, c, rfl, hc⟩ := ha.form
  obtain ⟨p', c', rfl, hc'⟩ := hb.form
  refine D55 ?_
  unfold S55
  simp only [Pure.run (p_len sl26.slice), JoinP.eq, PickP.eq, GuardP.yes, GuardP.undef, GuardP.no (show (true == false) = false from rfl), GuardP.no (show (false == true) = false from rfl), CondP.tt, CondP.ff, add_r, sub_r, mul_r, lss_r, leq_r, gtr_r, geq_r, eql_r, neq_r, eqs_r, nes_r, not_r, nil_r, Bool.not_true, Bool.not_false, if_true, if_false, Bool.false_eq_true, decide_true, decide_false, Nat.zero_add, Bool.and_true, Bool.true_and]
  refine LoopP.of2 (fun r i w' => ∃ k : Nat, k ≤ xs.length ∧ i = .int .i64 k ∧ Ext w w') (fun _ i _ => xs.length - (intOf i).toNat) ⟨0, by omega, rfl, Ext.refl _⟩ ?_
  rintro r i w' ⟨k, hk, rfl, hext⟩
  simp only [Pure.run (p_len sl26.slice), lss_r]
  refine CondP.dec (fun h => ?_) (fun h => ?_)
  · have hk' : k < xs.length := by omega
    obtain ⟨s, hs⟩ : ∃ s, xs[k]? = some s := ⟨xs[k], by simp [hk']⟩
    obtain ⟨bl, ol, cs, rfl, _, _, _, hat, rfl⟩ := ha.get hs
    obtain ⟨bl', ol', cs, rfl, _, _, _, hat', rfl⟩ := hb.get hs
    try simp only [JoinP.eq]
    intro w1 he1
    have hext1 := hext.trans he1
    rw [Pure.runQ (p_idx (e := 9) (sz := 1) sl26.slice size9 (by omega) (by omega))]
    refine q_load1 one9 (hat w1 (hm.ext hext1) 0 _ rfl) ?_
    rw [Pure.runQ (p_idx (e := 9) (sz := 1) sl26.slice size9 (by omega) (by omega))]
    refine q_load1 one9 (hat' w1 (hm'.ext hext1) 0 _ rfl) ?_
    simp only [decide_true, PickQ.eq, GuardQ.yes, GuardQ.undef, GuardQ.no (show (true == false) = false from rfl), GuardQ.no (show (false == true) = false from rfl), eql_q, neq_q, lss_q, add_q, sub_q, eqs_q, nes_q, not_q, JoinP.eq, PickP.eq, GuardP.yes, GuardP.undef, GuardP.no (show (true == false) = false from rfl), GuardP.no (show (false == true) = false from rfl), CondP.tt, CondP.ff, add_r, sub_r, mul_r, lss_r, leq_r, gtr_r, geq_r, eql_r, neq_r, eqs_r, nes_r, not_r, nil_r, Bool.not_true, Bool.not_false, if_true, if_false, Bool.false_eq_true, decide_true, decide_false, Nat.zero_add, Bool.and_true, Bool.true_and]
    refine ⟨⟨k + 1, by omega, succ64 (by omega), hext1⟩, ?_⟩
    rw [succ64 (by omega)]; simp [intOf]; omega
  · exact ⟨rfl, hext⟩
end Go.Proofs.Ytmgleeoecdodjaa.Sh
