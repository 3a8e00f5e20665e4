/- The reader's five steps. Conditions: lengths up to 2^30. -/
import Derived.Test.YtfdjkdiebabimaaBx
set_option linter.unusedVariables false
set_option linter.unusedSimpArgs false
set_option maxRecDepth 10000
namespace Go.V
theorem Sl.take {α : Type} {m : Mem} {sz : Nat} {R : List Value → α → Prop} {p : Option Addr} {n c k : Nat} {l : List α} (h : Sl m sz R (.slice p n c) l) (hk : k ≤ l.length) : Sl m sz R (.slice p k c) (l.take k) := by
  obtain ⟨p', c', h1, h2, h3⟩ := h.h
  injection h1 with e1 e2 e3
  subst e1; subst e2; subst e3
  have hl : (l.take k).length = k := by simp; omega
  refine ⟨⟨p, c, by rw [hl], by omega, fun i x hx => ?_⟩⟩
  exact h3 i x (by
    have hi := (List.getElem?_eq_some_iff.1 hx).1
    rw [← hx, List.getElem?_take_of_lt (by omega)])
end Go.V
namespace Go.Proofs.Ytfdjkdiebabimaa.Sh
open Go Go.V Go.RowKit Go.Proofs.Ytfdjkdiebabimaa.Bp

/-- What a step answers: an error just if what is there is bad. -/
structure StepR (b : Nat) (w : World) (bad : Prop) (Q : World → Prop) (r : Value) (w' : World) : Prop where
  mod : Mod [b] w w'
  no : bad → ∃ t a, r = .iface t a
  ok : ¬ bad → r = .nilIface ∧ Q w'
theorem StepR.bad {b : Nat} {w w' : World} {bad : Prop} {Q : World → Prop} {t : TypeId} {a : Value} (m : Mod [b] w w') (h : bad) : StepR b w bad Q (.iface t a) w' := ⟨m, fun _ => ⟨_, _, rfl⟩, fun hn => absurd h hn⟩
theorem StepR.good {b : Nat} {w w' : World} {bad : Prop} {Q : World → Prop} (m : Mod [b] w w') (h : ¬ bad) (q : Q w') : StepR b w bad Q .nilIface w' := ⟨m, fun hb => absurd hb h, fun _ => ⟨rfl, q⟩⟩
theorem natdec (a b : Nat) : decide ((a : Int) = (b : Int)) = decide (a = b) := decide_eq_decide.2 (by omega)
theorem natdec0 (a : Nat) : decide ((a : Int) = 0) = decide (a = 0) := decide_eq_decide.2 (by omega)
theorem natdec1 (a : Nat) : decide ((a : Int) = 1) = decide (a = 1) := decide_eq_decide.2 (by omega)
theorem readId {m : Mem} {sl : Value} {l : List Bool} {b : Nat} {w : World} (hm : Sub m w) (hl : Bits m sl l) (hn : l.length ≤ 1073741824) (ho : Off m b) (hb : Blk w b (rdC sl 0 0 false (.slice none 0 0) 0) 127) :
    Does Try.prog 53 [.pointer (some ⟨b, 0, none⟩)] w (StepR b w (bad1 l) fun w' => Blk w' b (rdC sl 14 (numP (cut l 1 11)) (wideP l) (.slice none 0 0) 0) 127) := by
  have hO : ∀ k ∈ [b], Off m k := fun k hk => by simp at hk; subst hk; exact ho
  obtain ⟨p, c, rfl, hc⟩ := hl.form
  refine D53 ?_
  unfold S53
  refine GoN.does pl62 (left hb (by omega) hn) ?_
  rintro _ w1 ⟨e1, rfl⟩
  have b1 := hb.ext e1
  simp only [lss_r]
  refine CondP.dec (fun h => ?_) (fun h => ?_)
  · rw [Pure.run (i_err _)]
    exact .bad (Mod.ext e1) (.inl (by omega))
  · have h14 : 14 ≤ l.length := by omega
    have m1 := hm.ext e1
    refine GoN.does pl51 (take (n := 1) m1 hl b1 (by omega) (by omega) (by omega) hn) ?_
    rintro _ w2 ⟨d2, rfl, b2⟩
    have m2 := m1.mod d2 hO
    refine GoN.does pl51 (take (n := 11) m2 hl b2 (by omega) (by omega) (by omega) hn) ?_
    rintro _ w3 ⟨d3, rfl, b3⟩
    have m3 := m2.mod d3 hO
    rw [nil_r, Pure.run (p_field (o := 0) fld127_2), Pure.run (p_field (o := 0 + 2) fld35_0)]
    refine r_store size32 (l := [.int .u32 (numP (cut l 1 11) : Int)]) rfl rfl (all_one rfl) b3 (show 0 + 2 + 0 + 1 ≤ 6 by decide) fun w4 c4 b4 => ?_
    have b4 : Blk w4 b (rdC (.slice p l.length c) 12 (numP (cut l 1 11)) false (.slice none 0 0) 0) 127 := b4
    have m4 := m3.mod (Mod.one c4) hO
    refine GoN.does pl51 (take (n := 1) m4 hl b4 (by omega) (by omega) (by omega) hn) ?_
    rintro _ w5 ⟨d5, rfl, b5⟩
    have m5 := m4.mod d5 hO
    refine GoN.does pl51 (take (n := 1) m5 hl b5 (by omega) (by omega) (by omega) hn) ?_
    rintro _ w6 ⟨d6, rfl, b6⟩
    rw [eql_r, nil_r, Pure.run (p_field (o := 0) fld127_2), Pure.run (p_field (o := 0 + 2) fld35_1), natdec1]
    refine r_store size4 (l := [.bool (wideP l)]) rfl rfl (all_one rfl) b6 (show 0 + 2 + 1 + 1 ≤ 6 by decide) fun w7 c7 b7 => ?_
    have b7 : Blk w7 b (rdC (.slice p l.length c) 14 (numP (cut l 1 11)) (wideP l) (.slice none 0 0) 0) 127 := b7
    have dm : Mod [b] w w7 := ((((((Mod.ext e1).trans d2).trans d3).trans (Mod.one c4)).trans d5).trans d6).trans (Mod.one c7)
    rw [neq_r, natdec0]
    by_cases h0 : numP (cut l 0 1) = 0
    · rw [show decide (numP (cut l 0 1) = 0) = true from decide_eq_true h0]
      simp only [JoinP.eq, PickP.eq, GuardP.yes, GuardP.undef, GuardP.no (show (true == false) = false from rfl), GuardP.no (show (false == true) = false from rfl), CondP.tt, CondP.ff, add_r, sub_r, mul_r, lss_r, leq_r, gtr_r, geq_r, eql_r, neq_r, eqs_r, nes_r, not_r, nil_r, Bool.not_true, Bool.not_false, if_true, if_false, Bool.false_eq_true, decide_true, decide_false, Nat.zero_add, Bool.and_true, Bool.true_and, natdec1]
      rw [Pure.run (p_field (o := 0) fld127_2), Pure.run (p_field (o := 2) fld35_1), ld1 b7 one4 (o := 2 + 1) rfl, neb_r]
      refine CondP.of (fun hh => ?_) (fun hh => ?_)
      · rw [Pure.run (i_err _)]
        exact .bad dm (.inr (.inr (by simpa [wideP] using hh)))
      · refine .good dm (fun hbad => ?_) b7
        rcases hbad with h1 | h1 | h1
        · omega
        · exact h1 h0
        · unfold wideP at hh
          simp only [Bool.not_eq_false', decide_eq_true_eq] at hh
          exact h1 hh
    · rw [show decide (numP (cut l 0 1) = 0) = false from decide_eq_false h0]
      simp only [JoinP.eq, PickP.eq, GuardP.yes, GuardP.undef, GuardP.no (show (true == false) = false from rfl), GuardP.no (show (false == true) = false from rfl), CondP.tt, CondP.ff, add_r, sub_r, mul_r, lss_r, leq_r, gtr_r, geq_r, eql_r, neq_r, eqs_r, nes_r, not_r, nil_r, Bool.not_true, Bool.not_false, if_true, if_false, Bool.false_eq_true, decide_true, decide_false, Nat.zero_add, Bool.and_true, Bool.true_and]
      rw [Pure.run (i_err _)]
      exact .bad dm (.inr (.inl h0))
theorem readRest {m : Mem} {sl : Value} {l : List Bool} {b : Nat} {w : World} (hm : Sub m w) (hl : Bits m sl l) (hn : l.length ≤ 1073741824) (ho : Off m b) (h14 : 14 ≤ l.length) (hb : Blk w b (rdC sl 14 (numP (cut l 1 11)) (wideP l) (.slice none 0 0) 0) 127) :
    Does Try.prog 54 [.pointer (some ⟨b, 0, none⟩)] w (StepR b w (bad2 l) fun w' => Blk w' b (rdC sl (kP l) (idP l) (wideP l) (.slice none 0 0) 0) 127) := by
  have hO : ∀ k ∈ [b], Off m k := fun k hk => by simp at hk; subst hk; exact ho
  obtain ⟨p, c, rfl, hc⟩ := hl.form
  refine D54 ?_
  unfold S54
  rw [nil_r, Pure.run (p_field (o := 0) fld127_2), Pure.run (p_field (o := 0 + 2) fld35_1), ld1 hb one4 (o := 0 + 2 + 1) rfl, not_r]
  cases hw : wideP l with
  | false =>
    rw [hw] at hb
    have hbad : bad2 l = (l.length < 19 ∨ numP (cut l 14 1) ≠ 0) := by unfold bad2; rw [hw]; rfl
    simp only [Bool.not_false, CondP.tt]
    refine GoN.does pl62 (left hb (by omega) hn) ?_
    rintro _ w1 ⟨e1, rfl⟩
    have b1 := hb.ext e1
    have m1 := hm.ext e1
    simp only [lss_r]
    refine CondP.dec (fun h => ?_) (fun h => ?_)
    · rw [Pure.run (i_err _)]
      exact .bad (Mod.ext e1) (by rw [hbad]; exact .inl (by omega))
    · refine GoN.does pl51 (take (n := 1) m1 hl b1 (by omega) (by omega) (by omega) hn) ?_
      rintro _ w2 ⟨d2, rfl, b2⟩
      rw [neq_r, natdec0]
      by_cases h0 : numP (cut l 14 1) = 0
      · rw [show decide (numP (cut l 14 1) = 0) = true from decide_eq_true h0]
        simp only [JoinP.eq, PickP.eq, GuardP.yes, GuardP.undef, GuardP.no (show (true == false) = false from rfl), GuardP.no (show (false == true) = false from rfl), CondP.tt, CondP.ff, add_r, sub_r, mul_r, lss_r, leq_r, gtr_r, geq_r, eql_r, neq_r, eqs_r, nes_r, not_r, nil_r, Bool.not_true, Bool.not_false, if_true, if_false, Bool.false_eq_true, decide_true, decide_false, Nat.zero_add, Bool.and_true, Bool.true_and]
        refine .good ((Mod.ext e1).trans d2) (by rw [hbad]; intro hh; rcases hh with hh | hh; omega; exact hh h0) ?_
        rw [show kP l = 15 by unfold kP; rw [hw]; rfl, show idP l = numP (cut l 1 11) by unfold idP; rw [hw]; rfl]
        exact b2
      · rw [show decide (numP (cut l 14 1) = 0) = false from decide_eq_false h0]
        simp only [JoinP.eq, PickP.eq, GuardP.yes, GuardP.undef, GuardP.no (show (true == false) = false from rfl), GuardP.no (show (false == true) = false from rfl), CondP.tt, CondP.ff, add_r, sub_r, mul_r, lss_r, leq_r, gtr_r, geq_r, eql_r, neq_r, eqs_r, nes_r, not_r, nil_r, Bool.not_true, Bool.not_false, if_true, if_false, Bool.false_eq_true, decide_true, decide_false, Nat.zero_add, Bool.and_true, Bool.true_and]
        rw [Pure.run (i_err _)]
        exact .bad ((Mod.ext e1).trans d2) (by rw [hbad]; exact .inr h0)
  | true =>
    rw [hw] at hb
    have hbad : bad2 l = (l.length < 39 ∨ numP (cut l 32 3) ≠ 0) := by unfold bad2; rw [hw]; rfl
    simp only [Bool.not_true, CondP.ff]
    refine GoN.does pl62 (left hb (by omega) hn) ?_
    rintro _ w1 ⟨e1, rfl⟩
    have b1 := hb.ext e1
    have m1 := hm.ext e1
    simp only [lss_r]
    refine CondP.dec (fun h => ?_) (fun h => ?_)
    · rw [Pure.run (i_err _)]
      exact .bad (Mod.ext e1) (by rw [hbad]; exact .inl (by omega))
    · intro w2 e2
      have b2 := b1.ext e2
      have m2 := m1.ext e2
      have hA := cut_lt l 1 11
      have hB := cut_lt l 14 18
      refine ⟨fun w' => ∃ k, Blk w' b (rdC (.slice p l.length c) k (numP (cut l 1 11)) true (.slice none 0 0) 0) 127, ⟨_, b2⟩, ?_⟩
      refine Pure.g p_nil (Pure.g (p_field (o := 0) fld127_2) (Pure.g (p_field (o := 0 + 2) fld35_0) (ldG one32 (v := .int .u32 (numP (cut l 1 11) : Int)) (fun w' ⟨k, hk⟩ => hk.get rfl) (Pure.g (p_shlN (n := 18) k32 (by decide)) ?_))))
      refine GoN.does pl51 (take (n := 18) m2 hl b2 (by omega) (by omega) (by omega) hn) ?_
      rintro _ w3 ⟨d3, rfl, b3⟩
      have m3 := m2.mod d3 hO
      refine ⟨⟨_, b3⟩, ?_⟩
      refine Pure.g (p_or k32 (Nat.mod_lt _ (by decide)) (by simp [IntKind.bits]; omega)) (Pure.g p_nil (Pure.g (p_field (o := 0) fld127_2) (Pure.g (p_field (o := 0 + 2) fld35_0) ?_)))
      have hid : numP (cut l 1 11) * 2 ^ 18 % 2 ^ IntKind.u32.bits ||| numP (cut l 14 18) = idP l := by unfold idP; rw [hw]; rfl
      rw [hid]
      refine r_store size32 (l := [.int .u32 (idP l : Int)]) rfl rfl (all_one rfl) b3 (show 0 + 2 + 0 + 1 ≤ 6 by decide) fun w4 c4 b4 => ?_
      have b4 : Blk w4 b (rdC (.slice p l.length c) 32 (idP l) true (.slice none 0 0) 0) 127 := b4
      have m4 := m3.mod (Mod.one c4) hO
      refine GoN.does pl51 (take (n := 3) m4 hl b4 (by omega) (by omega) (by omega) hn) ?_
      rintro _ w5 ⟨d5, rfl, b5⟩
      have dm : Mod [b] w w5 := (((Mod.ext (e1.trans e2)).trans d3).trans (Mod.one c4)).trans d5
      rw [neq_r, natdec0]
      by_cases h0 : numP (cut l 32 3) = 0
      · rw [show decide (numP (cut l 32 3) = 0) = true from decide_eq_true h0]
        simp only [JoinP.eq, PickP.eq, GuardP.yes, GuardP.undef, GuardP.no (show (true == false) = false from rfl), GuardP.no (show (false == true) = false from rfl), CondP.tt, CondP.ff, add_r, sub_r, mul_r, lss_r, leq_r, gtr_r, geq_r, eql_r, neq_r, eqs_r, nes_r, not_r, nil_r, Bool.not_true, Bool.not_false, if_true, if_false, Bool.false_eq_true, decide_true, decide_false, Nat.zero_add, Bool.and_true, Bool.true_and]
        refine .good dm (by rw [hbad]; intro hh; rcases hh with hh | hh; omega; exact hh h0) ?_
        rw [show kP l = 35 by unfold kP; rw [hw]; rfl]
        exact b5
      · rw [show decide (numP (cut l 32 3) = 0) = false from decide_eq_false h0]
        simp only [JoinP.eq, PickP.eq, GuardP.yes, GuardP.undef, GuardP.no (show (true == false) = false from rfl), GuardP.no (show (false == true) = false from rfl), CondP.tt, CondP.ff, add_r, sub_r, mul_r, lss_r, leq_r, gtr_r, geq_r, eql_r, neq_r, eqs_r, nes_r, not_r, nil_r, Bool.not_true, Bool.not_false, if_true, if_false, Bool.false_eq_true, decide_true, decide_false, Nat.zero_add, Bool.and_true, Bool.true_and]
        rw [Pure.run (i_err _)]
        exact .bad dm (by rw [hbad]; exact .inr h0)
theorem readLen {m : Mem} {sl : Value} {l : List Bool} {b id : Nat} {wide : Bool} {w : World} (hm : Sub m w) (hl : Bits m sl l) (hn : l.length ≤ 1073741824) (ho : Off m b) (hk : kP l + 4 ≤ l.length) (hb : Blk w b (rdC sl (kP l) id wide (.slice none 0 0) 0) 127) :
    Does Try.prog 55 [.pointer (some ⟨b, 0, none⟩)] w (StepR b w (bad3 l) fun w' => Blk w' b (rdC sl (kP l + 4) id wide (.slice none 0 0) (sizeP l)) 127) := by
  have hO : ∀ k ∈ [b], Off m k := fun k hk => by simp at hk; subst hk; exact ho
  obtain ⟨p, c, rfl, hc⟩ := hl.form
  have hsz : sizeP l < 2 ^ 4 := cut_lt _ _ _
  refine D55 ?_
  unfold S55
  refine GoN.does pl51 (take (n := 4) hm hl hb (by omega) (by omega) (by omega) hn) ?_
  rintro _ w1 ⟨d1, rfl, b1⟩
  rw [Pure.run (p_conv Try.underlying32 Try.underlying3), show numP (cut l (kP l) 4) = sizeP l from rfl, wrap64_id (by omega) (by omega), nil_r, Pure.run (p_field (o := 0) fld127_3)]
  refine r_store size3 (l := [.int .i64 (sizeP l : Int)]) rfl rfl (all_one rfl) b1 (show 0 + 5 + 1 ≤ 6 by decide) fun w2 c2 b2 => ?_
  have b2 : Blk w2 b (rdC (.slice p l.length c) (kP l + 4) id wide (.slice none 0 0) (sizeP l)) 127 := b2
  have d2 : Mod [b] w w2 := d1.trans (Mod.one c2)
  rw [nil_r, Pure.run (p_field (o := 0) fld127_3), ld1 b2 one3 (o := 0 + 5) rfl, gtr_r]
  refine CondP.dec (fun h => ?_) (fun h => ?_)
  · rw [Pure.run (i_err _)]
    exact .bad d2 (.inl (by omega))
  · try show Run _ _ _ _
    rw [nil_r, Pure.run (p_field (o := 0) fld127_3), ld1 b2 one3 (o := 0 + 5) rfl, mul_r, add_r, wrap64_id (x := 8 * (sizeP l : Int)) (by omega) (by omega), wrap64_id (by omega) (by omega)]
    try simp only [JoinP.eq]
    refine GoN.does pl62 (left b2 (by omega) hn) ?_
    rintro _ w3 ⟨e3, rfl⟩
    have b3 := b2.ext e3
    have d3 := d2.trans (Mod.ext e3)
    simp only [lss_r]
    refine CondP.dec (fun h1 => ?_) (fun h1 => ?_)
    · rw [Pure.run (i_err _)]
      exact .bad d3 (.inr (by omega))
    · refine GoN.does pl62 (left b3 (by omega) hn) ?_
      rintro _ w4 ⟨e4, rfl⟩
      have b4 := b3.ext e4
      have d4 := d3.trans (Mod.ext e4)
      simp only [gtr_r]
      refine CondP.dec (fun h2 => ?_) (fun h2 => ?_)
      · rw [Pure.run (i_err _)]
        exact .bad d4 (.inr (by omega))
      · exact .good d4 (fun hh => by rcases hh with hh | hh; omega; exact hh (by omega)) b4
theorem bytes_snoc (m : List Bool) : ∀ (n k : Nat), bytesAt m k (n + 1) = bytesAt m k n ++ [numP (cut m (k + 8 * n) 8)]
  | 0, k => rfl
  | n + 1, k => by
    show numP (cut m k 8) :: bytesAt m (k + 8) (n + 1) = _
    rw [bytes_snoc m n (k + 8), show k + 8 + 8 * n = k + 8 * (n + 1) by omega]; rfl
theorem bytes_atlen (m : List Bool) : ∀ (n k : Nat), (bytesAt m k n).length = n
  | 0, _ => rfl
  | n + 1, k => by simp [bytesAt, bytes_atlen m n]
theorem bytes_atlt (m : List Bool) : ∀ (n k : Nat), ∀ x ∈ bytesAt m k n, x < 256
  | 0, _ => by simp [bytesAt]
  | n + 1, k => fun x hx => by
    simp only [bytesAt, List.mem_cons] at hx
    rcases hx with rfl | hx
    · exact cut_lt m k 8
    · exact bytes_atlt m n _ x hx
theorem readData {m : Mem} {sl : Value} {l : List Bool} {b id k size : Nat} {wide : Bool} {w : World} (hm : Sub m w) (hl : Bits m sl l) (hn : l.length ≤ 1073741824) (ho : Off m b) (hs : size ≤ 8) (hk : k + 8 * size ≤ l.length) (hb : Blk w b (rdC sl k id wide (.slice none 0 0) size) 127) :
    Does Try.prog 56 [.pointer (some ⟨b, 0, none⟩)] w (StepR b w False fun w' => ∃ dv, OBytes w' dv (bytesAt l k size) ∧ (∀ g, dv.ownBlock = some g → w.heap.size ≤ g) ∧ Blk w' b (rdC sl (k + 8 * size) id wide dv size) 127) := by
  have hO : ∀ k ∈ [b], Off m k := fun k hk => by simp at hk; subst hk; exact ho
  have hbw := hb.lt
  obtain ⟨p, c, rfl, hc⟩ := hl.form
  refine D56 ?_
  unfold S56
  rw [nil_r, Pure.run (p_field (o := 0) fld127_3), ld1 hb one3 (o := 0 + 5) rfl]
  simp only [JoinP.eq]
  refine LoopP.of1 (fun i w' => ∃ (j : Nat) (dv : Value), j ≤ size ∧ i = .int .i64 j ∧ OBytes w' dv (bytesAt l k j) ∧ (∀ g, dv.ownBlock = some g → w.heap.size ≤ g) ∧ Mod [b] w w' ∧ Blk w' b (rdC (.slice p l.length c) (k + 8 * j) id wide dv size) 127) (fun i _ => size - (intOf i).toNat)
    ⟨0, .slice none 0 0, Nat.zero_le _, rfl, Own.nil _ _ _, fun g hg => by simp [Value.ownBlock] at hg, Mod.refl _ _, hb⟩ ?_
  rintro _ w1 ⟨j, dv, hj, rfl, ho1, hlow, d1, b1⟩
  simp only [lss_r]
  refine CondP.dec (fun h => ?_) (fun h => ?_)
  · have hj' : j < size := by omega
    try simp only [JoinP.eq]
    intro w2 e2
    have b2 := b1.ext e2
    have m2 := (hm.mod d1 hO).ext e2
    have ho2 := ho1.ext e2
    refine ⟨fun w' => ∃ k, Blk w' b (rdC (.slice p l.length c) k id wide dv size) 127, ⟨_, b2⟩, ?_⟩
    refine Pure.g p_nil (Pure.g (p_field (o := 0) fld127_2) (Pure.g (p_field (o := 0 + 2) fld35_2) (ldG one33 (v := dv) (fun w' ⟨k, hk⟩ => hk.get rfl) ?_)))
    refine GoN.does pl51 (take (n := 8) m2 hl b2 (by omega) (by omega) (by omega) hn) ?_
    rintro _ w3 ⟨d3, rfl, b3⟩
    refine ⟨⟨_, b3⟩, ?_⟩
    have hlt := cut_lt l (k + 8 * j) 8
    refine Pure.g (p_conv Try.underlying32 Try.underlying5) ?_
    rw [wrap_nat (.inl rfl) (by simpa [IntKind.bits] using hlt)]
    have hnb : dv.ownBlock ≠ some b := fun he => by have := hlow _ he; omega
    have ho3 : OBytes w3 dv (bytesAt l k j) := ho2.mod d3 (fun g hg hh => by simp at hh; subst hh; exact hnb hg)
    refine r_append1E sl33 ho3 rfl (all_one rfl) (by rw [bytes_atlen]; unfold maxLen; omega) (by rw [bytes_atlen]; omega) (fun w' e' => ⟨_, b3.ext e'⟩) fun dv4 w4 ho4 g4 => ?_
    have b4 : Blk w4 b _ _ := (g4.block _ b3.lt (fun e => hnb e.symm)).trans b3
    refine ⟨⟨_, b4⟩, ?_⟩
    have ho4 : OBytes w4 dv4 (bytesAt l k (j + 1)) := by
      rw [bytes_snoc]; unfold OBytes yvals; rw [List.length_append, List.map_append]; exact ho4
    rw [nil_r, Pure.run (p_field (o := 0) fld127_2), Pure.run (p_field (o := 0 + 2) fld35_2)]
    have hd3 : Mod [b] w w3 := (d1.trans (Mod.ext e2)).trans d3
    have hlow4 := g4.low (B := w.heap.size) hd3.size hlow
    refine r_store size33 (l := [dv4]) (by
      obtain ⟨p', c', rfl, _⟩ := ho4.len
      rfl) rfl (by
      intro x hx
      simp at hx; subst hx
      obtain ⟨p', c', rfl, _⟩ := ho4.len
      rfl) b4 (show 0 + 2 + 2 + 1 ≤ 6 by decide) fun w5 c5 b5 => ?_
    have b5 : Blk w5 b (rdC (.slice p l.length c) (k + 8 * (j + 1)) id wide dv4 size) 127 := b5
    simp only [add_r]
    have hd4 : Mod [b] w w4 := ⟨g4.os.trans hd3.os, g4.tape.trans hd3.tape, g4.output.trans hd3.output, Nat.le_trans hd3.size g4.size, fun x hx hn => (g4.block x (Nat.lt_of_lt_of_le hx hd3.size) (fun he => by have := hlow x he.symm; omega)).trans (hd3.block x hx hn)⟩
    refine ⟨⟨j + 1, dv4, by omega, succ64 (by omega), ho4.chg c5 (fun he => by have := hlow4 _ he; omega), hlow4, hd4.trans (Mod.one c5), b5⟩, ?_⟩
    rw [succ64 (by omega)]; simp [intOf]; omega
  · have hj' : j = size := by omega
    subst hj'
    exact .good d1 (fun h => h) ⟨dv, ho1, hlow, b1⟩
theorem readSum {m : Mem} {sl : Value} {l : List Bool} {b id k size : Nat} {wide : Bool} {dv : Value} {w : World} (hm : Sub m w) (hl : Bits m sl l) (hn : l.length ≤ 1073741824) (ho : Off m b) (hk : k + 15 ≤ l.length) (hb : Blk w b (rdC sl k id wide dv size) 127) :
    Does Try.prog 57 [.pointer (some ⟨b, 0, none⟩)] w (StepR b w (numP (cut l k 15) ≠ crcP (l.take k)) fun w' => Blk w' b (rdC sl (k + 15) id wide dv size) 127) := by
  obtain ⟨p, c, rfl, hc⟩ := hl.form
  refine D57 ?_
  unfold S57
  intro w1 e1
  have b1 := hb.ext e1
  have m1 := hm.ext e1
  rw [Pure.runQ p_nil, Pure.runQ (p_field (o := 0) fld127_0), ld1Q b1 one52 (o := 0 + 0) rfl, Pure.runQ p_nil, Pure.runQ (p_field (o := 0) fld127_1), ld1Q b1 one3 (o := 0 + 1) rfl, Pure.runQ (p_upto sl52.slice size4 (by omega) (by omega)), show ((k : Nat) : Int).toNat = k by omega]
  refine GoN.does pl48 (crcSum m1 (hl.take (k := k) (by omega)) (by rw [List.length_take]; omega)) ?_
  rintro _ w2 ⟨rfl, e2⟩
  refine ⟨e2, ?_⟩
  refine GoN.does pl51 (take (n := 15) (m1.ext e2) hl (b1.ext e2) (by omega) (by omega) (by omega) hn) ?_
  rintro _ w3 ⟨d3, rfl, b3⟩
  have hcl := crcP_lt (l.take k)
  rw [Pure.run (p_conv Try.underlying111 Try.underlying32), wrap_nat k32 (by simp [IntKind.bits]; omega), neq_r, natdec]
  have dm : Mod [b] w w3 := (Mod.ext (e1.trans e2)).trans d3
  by_cases h0 : numP (cut l k 15) = crcP (l.take k)
  · rw [show decide (numP (cut l k 15) = crcP (l.take k)) = true from decide_eq_true h0]
    simp only [JoinP.eq, PickP.eq, GuardP.yes, GuardP.undef, GuardP.no (show (true == false) = false from rfl), GuardP.no (show (false == true) = false from rfl), CondP.tt, CondP.ff, add_r, sub_r, mul_r, lss_r, leq_r, gtr_r, geq_r, eql_r, neq_r, eqs_r, nes_r, not_r, nil_r, Bool.not_true, Bool.not_false, if_true, if_false, Bool.false_eq_true, decide_true, decide_false, Nat.zero_add, Bool.and_true, Bool.true_and]
    exact .good dm (fun hh => hh h0) b3
  · rw [show decide (numP (cut l k 15) = crcP (l.take k)) = false from decide_eq_false h0]
    simp only [JoinP.eq, PickP.eq, GuardP.yes, GuardP.undef, GuardP.no (show (true == false) = false from rfl), GuardP.no (show (false == true) = false from rfl), CondP.tt, CondP.ff, add_r, sub_r, mul_r, lss_r, leq_r, gtr_r, geq_r, eql_r, neq_r, eqs_r, nes_r, not_r, nil_r, Bool.not_true, Bool.not_false, if_true, if_false, Bool.false_eq_true, decide_true, decide_false, Nat.zero_add, Bool.and_true, Bool.true_and]
    rw [Pure.run (i_err _)]
    exact .bad dm h0
end Go.Proofs.Ytfdjkdiebabimaa.Sh
