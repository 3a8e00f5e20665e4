/- That all lists in the book are found apart. Conditions: lengths up to 2^30. -/
import Derived.Test.YtmgleeoecdodjaaDoorTmn
import Derived.Test.YtmgleeoecdodjaaDoorUh
import Derived.Test.YtmgleeoecdodjaaDoorUm
set_option linter.unusedVariables false
set_option linter.unusedSimpArgs false
set_option maxRecDepth 10000
namespace Go.Proofs.YtmgleeoecdodjaaDoor.Sh
open Go Go.V Go.RowKit
def AT : List TypeId := [9, 26, 133, 79, 130, 75, 77, 29, 81, 30]
theorem apart {w : World} {kb lo h1 h2 h3 h4 h5 : Nat} {ts rs ss gs hs : List Value} (hb : BookAt w kb ts rs ss gs hs) (ht : ∀ (j : Nat) (v : Value), ts[j]? = some v → ∃ n xs, Own w 9 1 v n xs) (hr : ∀ (j : Nat) (v : Value), rs[j]? = some v → ∃ n xs, Own w 133 2 v n xs)
    (hss : ∀ (j : Nat) (v : Value), ss[j]? = some v → ∃ n xs, Own w 130 19 v n xs) (hgs : ∀ (j : Nat) (v : Value), gs[j]? = some v → ∃ n xs, Own w 77 8 v n xs) (hhs : ∀ (j : Nat) (v : Value), hs[j]? = some v → ∃ n xs, Own w 81 6 v n xs) (i1 : Dis lo ts h1) (i2 : Dis lo rs h2) (i3 : Dis lo ss h3) (i4 : Dis lo gs h4) (i5 : Dis lo hs h5) (hlo : lo ≤ w.heap.size)
    (b1 : ts.length ≤ 1073741824) (b2 : rs.length ≤ 1073741824) (b3 : ss.length ≤ 1073741824) (b4 : gs.length ≤ 1073741824) (b5 : hs.length ≤ 1073741824) (n1 : ∀ (j : Nat) (v : Value), ts[j]? = some v → sLen v ≤ 1073741824) (n2 : ∀ (j : Nat) (v : Value), rs[j]? = some v → sLen v ≤ 1073741824) (n3 : ∀ (j : Nat) (v : Value), ss[j]? = some v → sLen v ≤ 1073741824) (n4 : ∀ (j : Nat) (v : Value), gs[j]? = some v → sLen v ≤ 1073741824) (n5 : ∀ (j : Nat) (v : Value), hs[j]? = some v → sLen v ≤ 1073741824) :
    Does Tryd.prog 14 [.pointer (some ⟨kb, 0, none⟩)] w (Aparted AT lo w) := by
  obtain ⟨v1, v5, v10, v11, v12, hk, o1, o5, o10, o11, o12, _⟩ := hb.h
  refine D14 ?_
  unfold S14
  have K0 : Keep AT w w := Keep.refl _ _
  have B0 : Below lo w w := Below.refl _ _
  simp only [JoinP.eq, PickP.eq, GuardP.yes, GuardP.undef, GuardP.no (show (true == false) = false from rfl), GuardP.no (show (false == true) = false from rfl), CondP.tt, CondP.ff, add_r, sub_r, mul_r, lss_r, leq_r, gtr_r, geq_r, eql_r, neq_r, eqs_r, nes_r, not_r, nil_r, Bool.not_true, Bool.not_false, if_true, if_false, Bool.false_eq_true, decide_true, decide_false, Nat.zero_add, Bool.and_true, Bool.true_and, nil_r, Pure.run (p_field (o := 0) fld67_0), ld1 (K0.blk _ _ _ (by decide) hk) one51 (o := 0 + 0) rfl, ld1 (K0.blk _ _ _ (by decide) hk) one51 (o := 0) rfl]
  refine GoN.does pl31 (nilBytes _) ?_
  rintro _ u1 ⟨rfl, ex0⟩
  have J0 : Keep [] w w := Keep.refl _ _
  have K1 : Keep AT w u1 := K0.trans (.ext ex0 _)
  have B1 : Below lo w u1 := B0.trans (Below.mono ex0 (Nat.le_trans hlo B0.size))
  have J1 := J0.trans (.ext ex0 _)
  simp only [JoinP.eq, PickP.eq, GuardP.yes, GuardP.undef, GuardP.no (show (true == false) = false from rfl), GuardP.no (show (false == true) = false from rfl), CondP.tt, CondP.ff, add_r, sub_r, mul_r, lss_r, leq_r, gtr_r, geq_r, eql_r, neq_r, eqs_r, nes_r, not_r, nil_r, Bool.not_true, Bool.not_false, if_true, if_false, Bool.false_eq_true, decide_true, decide_false, Nat.zero_add, Bool.and_true, Bool.true_and, nil_r, Pure.run (p_field (o := 0) fld67_1), ld1 (K1.blk _ _ _ (by decide) hk) one52 (o := 0 + 1) rfl, ld1 (K1.blk _ _ _ (by decide) hk) one52 (o := 1) rfl]
  refine GoN.does pl32 (apartTexts (o1.keepT J1 (by decide)) (fun j v hv => by obtain ⟨n, xs, h⟩ := ht j v hv; exact ⟨n, xs, h.keepT J1 (by decide)⟩) i1 (Nat.le_trans hlo B1.size) b1 n1) ?_
  rintro _ u2 ⟨rfl, bl1, kp1⟩
  have K2 : Keep AT w u2 := K1.trans (kp1.mono (by simp [AT]))
  have B2 : Below lo w u2 := B1.trans bl1
  have J2 : Keep [9, 26] w u2 := (J1.mono (by simp [AT])).trans (kp1.mono (by simp [AT]))
  simp only [JoinP.eq, PickP.eq, GuardP.yes, GuardP.undef, GuardP.no (show (true == false) = false from rfl), GuardP.no (show (false == true) = false from rfl), CondP.tt, CondP.ff, add_r, sub_r, mul_r, lss_r, leq_r, gtr_r, geq_r, eql_r, neq_r, eqs_r, nes_r, not_r, nil_r, Bool.not_true, Bool.not_false, if_true, if_false, Bool.false_eq_true, decide_true, decide_false, Nat.zero_add, Bool.and_true, Bool.true_and, nil_r, Pure.run (p_field (o := 0) fld67_2), ld1 (K2.blk _ _ _ (by decide) hk) one53 (o := 0 + 2) rfl, ld1 (K2.blk _ _ _ (by decide) hk) one53 (o := 2) rfl]
  refine GoN.does pl33 (nilInts _) ?_
  rintro _ u3 ⟨rfl, ex2⟩
  have K3 : Keep AT w u3 := K2.trans (.ext ex2 _)
  have B3 : Below lo w u3 := B2.trans (Below.mono ex2 (Nat.le_trans hlo B2.size))
  have J3 := J2.trans (.ext ex2 _)
  simp only [JoinP.eq, PickP.eq, GuardP.yes, GuardP.undef, GuardP.no (show (true == false) = false from rfl), GuardP.no (show (false == true) = false from rfl), CondP.tt, CondP.ff, add_r, sub_r, mul_r, lss_r, leq_r, gtr_r, geq_r, eql_r, neq_r, eqs_r, nes_r, not_r, nil_r, Bool.not_true, Bool.not_false, if_true, if_false, Bool.false_eq_true, decide_true, decide_false, Nat.zero_add, Bool.and_true, Bool.true_and, nil_r, Pure.run (p_field (o := 0) fld67_3), ld1 (K3.blk _ _ _ (by decide) hk) one54 (o := 0 + 3) rfl, ld1 (K3.blk _ _ _ (by decide) hk) one54 (o := 3) rfl]
  refine GoN.does pl34 (nilNumbers _) ?_
  rintro _ u4 ⟨rfl, ex3⟩
  have K4 : Keep AT w u4 := K3.trans (.ext ex3 _)
  have B4 : Below lo w u4 := B3.trans (Below.mono ex3 (Nat.le_trans hlo B3.size))
  have J4 := J3.trans (.ext ex3 _)
  simp only [JoinP.eq, PickP.eq, GuardP.yes, GuardP.undef, GuardP.no (show (true == false) = false from rfl), GuardP.no (show (false == true) = false from rfl), CondP.tt, CondP.ff, add_r, sub_r, mul_r, lss_r, leq_r, gtr_r, geq_r, eql_r, neq_r, eqs_r, nes_r, not_r, nil_r, Bool.not_true, Bool.not_false, if_true, if_false, Bool.false_eq_true, decide_true, decide_false, Nat.zero_add, Bool.and_true, Bool.true_and, nil_r, Pure.run (p_field (o := 0) fld67_4), ld1 (K4.blk _ _ _ (by decide) hk) one55 (o := 0 + 4) rfl, ld1 (K4.blk _ _ _ (by decide) hk) one55 (o := 4) rfl]
  refine GoN.does pl35 (nilTokens _) ?_
  rintro _ u5 ⟨rfl, ex4⟩
  have K5 : Keep AT w u5 := K4.trans (.ext ex4 _)
  have B5 : Below lo w u5 := B4.trans (Below.mono ex4 (Nat.le_trans hlo B4.size))
  have J5 := J4.trans (.ext ex4 _)
  simp only [JoinP.eq, PickP.eq, GuardP.yes, GuardP.undef, GuardP.no (show (true == false) = false from rfl), GuardP.no (show (false == true) = false from rfl), CondP.tt, CondP.ff, add_r, sub_r, mul_r, lss_r, leq_r, gtr_r, geq_r, eql_r, neq_r, eqs_r, nes_r, not_r, nil_r, Bool.not_true, Bool.not_false, if_true, if_false, Bool.false_eq_true, decide_true, decide_false, Nat.zero_add, Bool.and_true, Bool.true_and, nil_r, Pure.run (p_field (o := 0) fld67_5), ld1 (K5.blk _ _ _ (by decide) hk) one56 (o := 0 + 5) rfl, ld1 (K5.blk _ _ _ (by decide) hk) one56 (o := 5) rfl]
  refine GoN.does pl36 (apartRows (o5.keepT J5 (by decide)) (fun j v hv => by obtain ⟨n, xs, h⟩ := hr j v hv; exact ⟨n, xs, h.keepT J5 (by decide)⟩) i2 (Nat.le_trans hlo B5.size) b2 n2) ?_
  rintro _ u6 ⟨rfl, bl5, kp5⟩
  have K6 : Keep AT w u6 := K5.trans (kp5.mono (by simp [AT]))
  have B6 : Below lo w u6 := B5.trans bl5
  have J6 : Keep [9, 26, 133, 79] w u6 := (J5.mono (by simp [AT])).trans (kp5.mono (by simp [AT]))
  simp only [JoinP.eq, PickP.eq, GuardP.yes, GuardP.undef, GuardP.no (show (true == false) = false from rfl), GuardP.no (show (false == true) = false from rfl), CondP.tt, CondP.ff, add_r, sub_r, mul_r, lss_r, leq_r, gtr_r, geq_r, eql_r, neq_r, eqs_r, nes_r, not_r, nil_r, Bool.not_true, Bool.not_false, if_true, if_false, Bool.false_eq_true, decide_true, decide_false, Nat.zero_add, Bool.and_true, Bool.true_and, nil_r, Pure.run (p_field (o := 0) fld67_6), ld1 (K6.blk _ _ _ (by decide) hk) one57 (o := 0 + 6) rfl, ld1 (K6.blk _ _ _ (by decide) hk) one57 (o := 6) rfl]
  refine GoN.does pl37 (nilInstrs _) ?_
  rintro _ u7 ⟨rfl, ex6⟩
  have K7 : Keep AT w u7 := K6.trans (.ext ex6 _)
  have B7 : Below lo w u7 := B6.trans (Below.mono ex6 (Nat.le_trans hlo B6.size))
  have J7 := J6.trans (.ext ex6 _)
  simp only [JoinP.eq, PickP.eq, GuardP.yes, GuardP.undef, GuardP.no (show (true == false) = false from rfl), GuardP.no (show (false == true) = false from rfl), CondP.tt, CondP.ff, add_r, sub_r, mul_r, lss_r, leq_r, gtr_r, geq_r, eql_r, neq_r, eqs_r, nes_r, not_r, nil_r, Bool.not_true, Bool.not_false, if_true, if_false, Bool.false_eq_true, decide_true, decide_false, Nat.zero_add, Bool.and_true, Bool.true_and, nil_r, Pure.run (p_field (o := 0) fld67_7), ld1 (K7.blk _ _ _ (by decide) hk) one58 (o := 0 + 7) rfl, ld1 (K7.blk _ _ _ (by decide) hk) one58 (o := 7) rfl]
  refine GoN.does pl38 (nilRules _) ?_
  rintro _ u8 ⟨rfl, ex7⟩
  have K8 : Keep AT w u8 := K7.trans (.ext ex7 _)
  have B8 : Below lo w u8 := B7.trans (Below.mono ex7 (Nat.le_trans hlo B7.size))
  have J8 := J7.trans (.ext ex7 _)
  simp only [JoinP.eq, PickP.eq, GuardP.yes, GuardP.undef, GuardP.no (show (true == false) = false from rfl), GuardP.no (show (false == true) = false from rfl), CondP.tt, CondP.ff, add_r, sub_r, mul_r, lss_r, leq_r, gtr_r, geq_r, eql_r, neq_r, eqs_r, nes_r, not_r, nil_r, Bool.not_true, Bool.not_false, if_true, if_false, Bool.false_eq_true, decide_true, decide_false, Nat.zero_add, Bool.and_true, Bool.true_and, nil_r, Pure.run (p_field (o := 0) fld67_8), ld1 (K8.blk _ _ _ (by decide) hk) one59 (o := 0 + 8) rfl, ld1 (K8.blk _ _ _ (by decide) hk) one59 (o := 8) rfl]
  refine GoN.does pl39 (nilValues _) ?_
  rintro _ u9 ⟨rfl, ex8⟩
  have K9 : Keep AT w u9 := K8.trans (.ext ex8 _)
  have B9 : Below lo w u9 := B8.trans (Below.mono ex8 (Nat.le_trans hlo B8.size))
  have J9 := J8.trans (.ext ex8 _)
  simp only [JoinP.eq, PickP.eq, GuardP.yes, GuardP.undef, GuardP.no (show (true == false) = false from rfl), GuardP.no (show (false == true) = false from rfl), CondP.tt, CondP.ff, add_r, sub_r, mul_r, lss_r, leq_r, gtr_r, geq_r, eql_r, neq_r, eqs_r, nes_r, not_r, nil_r, Bool.not_true, Bool.not_false, if_true, if_false, Bool.false_eq_true, decide_true, decide_false, Nat.zero_add, Bool.and_true, Bool.true_and, nil_r, Pure.run (p_field (o := 0) fld67_9), ld1 (K9.blk _ _ _ (by decide) hk) one60 (o := 0 + 9) rfl, ld1 (K9.blk _ _ _ (by decide) hk) one60 (o := 9) rfl]
  refine GoN.does pl40 (nilBools _) ?_
  rintro _ u10 ⟨rfl, ex9⟩
  have K10 : Keep AT w u10 := K9.trans (.ext ex9 _)
  have B10 : Below lo w u10 := B9.trans (Below.mono ex9 (Nat.le_trans hlo B9.size))
  have J10 := J9.trans (.ext ex9 _)
  simp only [JoinP.eq, PickP.eq, GuardP.yes, GuardP.undef, GuardP.no (show (true == false) = false from rfl), GuardP.no (show (false == true) = false from rfl), CondP.tt, CondP.ff, add_r, sub_r, mul_r, lss_r, leq_r, gtr_r, geq_r, eql_r, neq_r, eqs_r, nes_r, not_r, nil_r, Bool.not_true, Bool.not_false, if_true, if_false, Bool.false_eq_true, decide_true, decide_false, Nat.zero_add, Bool.and_true, Bool.true_and, nil_r, Pure.run (p_field (o := 0) fld67_10), ld1 (K10.blk _ _ _ (by decide) hk) one61 (o := 0 + 10) rfl, ld1 (K10.blk _ _ _ (by decide) hk) one61 (o := 10) rfl]
  refine GoN.does pl41 (apartSignals (o10.keepT J10 (by decide)) (fun j v hv => by obtain ⟨n, xs, h⟩ := hss j v hv; exact ⟨n, xs, h.keepT J10 (by decide)⟩) i3 (Nat.le_trans hlo B10.size) b3 n3) ?_
  rintro _ u11 ⟨rfl, bl10, kp10⟩
  have K11 : Keep AT w u11 := K10.trans (kp10.mono (by simp [AT]))
  have B11 : Below lo w u11 := B10.trans bl10
  have J11 : Keep [9, 26, 133, 79, 130, 75] w u11 := (J10.mono (by simp)).trans (kp10.mono (by simp))
  simp only [JoinP.eq, PickP.eq, GuardP.yes, GuardP.undef, GuardP.no (show (true == false) = false from rfl), GuardP.no (show (false == true) = false from rfl), CondP.tt, CondP.ff, add_r, sub_r, mul_r, lss_r, leq_r, gtr_r, geq_r, eql_r, neq_r, eqs_r, nes_r, not_r, nil_r, Bool.not_true, Bool.not_false, if_true, if_false, Bool.false_eq_true, decide_true, decide_false, Nat.zero_add, Bool.and_true, Bool.true_and, nil_r, Pure.run (p_field (o := 0) fld67_11), ld1 (K11.blk _ _ _ (by decide) hk) one62 (o := 0 + 11) rfl, ld1 (K11.blk _ _ _ (by decide) hk) one62 (o := 11) rfl]
  refine GoN.does pl42 (apartMessages (o11.keepT J11 (by decide)) (fun j v hv => by obtain ⟨n, xs, h⟩ := hgs j v hv; exact ⟨n, xs, h.keepT J11 (by decide)⟩) i4 (Nat.le_trans hlo B11.size) b4 n4) ?_
  rintro _ u12 ⟨rfl, bl11, kp11⟩
  have K12 : Keep AT w u12 := K11.trans (kp11.mono (by simp [AT]))
  have B12 : Below lo w u12 := B11.trans bl11
  have J12 : Keep [9, 26, 133, 79, 130, 75, 77, 29] w u12 := (J11.mono (by simp)).trans (kp11.mono (by simp))
  simp only [JoinP.eq, PickP.eq, GuardP.yes, GuardP.undef, GuardP.no (show (true == false) = false from rfl), GuardP.no (show (false == true) = false from rfl), CondP.tt, CondP.ff, add_r, sub_r, mul_r, lss_r, leq_r, gtr_r, geq_r, eql_r, neq_r, eqs_r, nes_r, not_r, nil_r, Bool.not_true, Bool.not_false, if_true, if_false, Bool.false_eq_true, decide_true, decide_false, Nat.zero_add, Bool.and_true, Bool.true_and, nil_r, Pure.run (p_field (o := 0) fld67_12), ld1 (K12.blk _ _ _ (by decide) hk) one63 (o := 0 + 12) rfl, ld1 (K12.blk _ _ _ (by decide) hk) one63 (o := 12) rfl]
  refine GoN.does pl43 (apartTables (o12.keepT J12 (by decide)) (fun j v hv => by obtain ⟨n, xs, h⟩ := hhs j v hv; exact ⟨n, xs, h.keepT J12 (by decide)⟩) i5 (Nat.le_trans hlo B12.size) b5 n5) ?_
  rintro _ u13 ⟨rfl, bl12, kp12⟩
  have K13 : Keep AT w u13 := K12.trans (kp12.mono (by simp [AT]))
  have B13 : Below lo w u13 := B12.trans bl12
  have J13 : Keep AT w u13 := K13
  simp only [JoinP.eq, PickP.eq, GuardP.yes, GuardP.undef, GuardP.no (show (true == false) = false from rfl), GuardP.no (show (false == true) = false from rfl), CondP.tt, CondP.ff, add_r, sub_r, mul_r, lss_r, leq_r, gtr_r, geq_r, eql_r, neq_r, eqs_r, nes_r, not_r, nil_r, Bool.not_true, Bool.not_false, if_true, if_false, Bool.false_eq_true, decide_true, decide_false, Nat.zero_add, Bool.and_true, Bool.true_and, nil_r, Pure.run (p_field (o := 0) fld67_13), ld1 (K13.blk _ _ _ (by decide) hk) one64 (o := 0 + 13) rfl, ld1 (K13.blk _ _ _ (by decide) hk) one64 (o := 13) rfl]
  refine GoN.does pl44 (nilFrames _) ?_
  rintro _ u14 ⟨rfl, ex13⟩
  have K14 : Keep AT w u14 := K13.trans (.ext ex13 _)
  have B14 : Below lo w u14 := B13.trans (Below.mono ex13 (Nat.le_trans hlo B13.size))
  have J14 := J13.trans (.ext ex13 _)
  simp only [JoinP.eq, PickP.eq, GuardP.yes, GuardP.undef, GuardP.no (show (true == false) = false from rfl), GuardP.no (show (false == true) = false from rfl), CondP.tt, CondP.ff, add_r, sub_r, mul_r, lss_r, leq_r, gtr_r, geq_r, eql_r, neq_r, eqs_r, nes_r, not_r, nil_r, Bool.not_true, Bool.not_false, if_true, if_false, Bool.false_eq_true, decide_true, decide_false, Nat.zero_add, Bool.and_true, Bool.true_and, nil_r, Pure.run (p_field (o := 0) fld67_14), ld1 (K14.blk _ _ _ (by decide) hk) one65 (o := 0 + 14) rfl, ld1 (K14.blk _ _ _ (by decide) hk) one65 (o := 14) rfl]
  refine GoN.does pl45 (nilLines _) ?_
  rintro _ u15 ⟨rfl, ex14⟩
  have K15 : Keep AT w u15 := K14.trans (.ext ex14 _)
  have B15 : Below lo w u15 := B14.trans (Below.mono ex14 (Nat.le_trans hlo B14.size))
  have J15 := J14.trans (.ext ex14 _)
  try simp only [JoinP.eq, PickP.eq, GuardP.yes, GuardP.undef, GuardP.no (show (true == false) = false from rfl), GuardP.no (show (false == true) = false from rfl), CondP.tt, CondP.ff, add_r, sub_r, mul_r, lss_r, leq_r, gtr_r, geq_r, eql_r, neq_r, eqs_r, nes_r, not_r, nil_r, Bool.not_true, Bool.not_false, if_true, if_false, Bool.false_eq_true, decide_true, decide_false, Nat.zero_add, Bool.and_true, Bool.true_and]
  exact ⟨rfl, B15, K15⟩
end Go.Proofs.YtmgleeoecdodjaaDoor.Sh
