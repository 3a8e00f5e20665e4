/- Numbers picked; the order of kinds; what a part, or none, is called. Conditions: lengths up to 2^30. -/
import Derived.Test.YtmgleeoecdodjaaDoorTnk
import Derived.Test.YtmgleeoecdodjaaDoorTl
set_option linter.unusedVariables false
set_option linter.unusedSimpArgs false
set_option maxRecDepth 10000
namespace Go.V
open Go.RowKit
variable {P : Program}
theorem p_rem {T : TypeId} {x y : Operand} {k : IntKind} {a b : Int} (hb : b ≠ 0) : Pure P (binSem .rem T x y (.int k a) (.int k b)) (.int k (a.tmod b)) := fun w => by
  simp [binSem, eqGuard, binOp, Op.intDiv, hb, Sem.run_bind, pure, Sem.run, Result.andThen]
theorem geq_r' {T : TypeId} {x y : Operand} {k : IntKind} {a b : Int} {w : World} {K : Value → World → Prop} : Run P (binSem .geq T x y (.int k a) (.int k b)) w K = K (.bool (decide (b ≤ a))) w := p_geq.run
/-- Whether the kind c may not stand at i behind la, as the code asks it. -/
theorem r_wrong {I : TypeId} {c la : Int} {st : Bool} {i : Nat} {x1 x2 x3 x4 x5 x6 x7 x8 x9 xa xb xc : Operand} {w : World} {K : Value → World → Prop}
    (k : K (.bool (decide (c = 0) || decide (c < la) || (decide (c = 1) && decide (0 < (i : Int))) || (decide (c = 2) && st) || (decide (2 < c) && !st))) w) :
    Run P (binSem .eql I x1 x2 (.int .i64 c) (.int .i64 0)) w fun t27 w12 =>
    GuardP t27 false (fun (k6 : N1) => k6 (.int .i64 c) w12) w12 fun t29 w13 =>
    GuardP t27 false (fun (k7 : N1) => k7 (.int .i64 la) w13) w13 fun t30 w14 =>
    GuardP t27 false (fun (k8 : N1) => Run P (binSem .lss I x3 x4 t29 t30) w14 k8) w14 fun t31 w15 =>
    PickP t27 (.bool true) t31 w15 fun t32 w16 =>
    GuardP t32 false (fun (k9 : N1) => k9 (.int .i64 c) w16) w16 fun t34 w17 =>
    GuardP t32 false (fun (k10 : N1) => Run P (binSem .eql I x5 x6 t34 (.int .i64 1)) w17 k10) w17 fun t35 w18 =>
    GuardP t32 false (fun (k11 : N1) => k11 t35 w18) w18 fun t36 w19 =>
    GuardP t36 true (fun (k12 : N1) => k12 (.int .i64 (i : Int)) w19) w19 fun t37 w20 =>
    GuardP t36 true (fun (k13 : N1) => Run P (binSem .gtr I x7 x8 t37 (.int .i64 0)) w20 k13) w20 fun t38 w21 =>
    GuardP t32 false (fun (k14 : N1) => PickP t36 t38 (.bool false) w21 k14) w21 fun t39 w22 =>
    PickP t32 (.bool true) t39 w22 fun t40 w23 =>
    GuardP t40 false (fun (k15 : N1) => k15 (.int .i64 c) w23) w23 fun t42 w24 =>
    GuardP t40 false (fun (k16 : N1) => Run P (binSem .eql I x9 xa t42 (.int .i64 2)) w24 k16) w24 fun t43 w25 =>
    GuardP t40 false (fun (k17 : N1) => k17 t43 w25) w25 fun t44 w26 =>
    GuardP t44 true (fun (k18 : N1) => k18 (.bool st) w26) w26 fun t45 w27 =>
    GuardP t40 false (fun (k19 : N1) => PickP t44 t45 (.bool false) w27 k19) w27 fun t46 w28 =>
    PickP t40 (.bool true) t46 w28 fun t47 w29 =>
    GuardP t47 false (fun (k20 : N1) => k20 (.int .i64 c) w29) w29 fun t49 w30 =>
    GuardP t47 false (fun (k21 : N1) => Run P (binSem .gtr I xb xc t49 (.int .i64 2)) w30 k21) w30 fun t50 w31 =>
    GuardP t47 false (fun (k22 : N1) => k22 t50 w31) w31 fun t51 w32 =>
    GuardP t51 true (fun (k23 : N1) => k23 (.bool st) w32) w32 fun t52 w33 =>
    GuardP t51 true (fun (k24 : N1) => Run P (Op.unary .not t52) w33 k24) w33 fun t53 w34 =>
    GuardP t47 false (fun (k25 : N1) => PickP t51 t53 (.bool false) w34 k25) w34 fun t54 w35 =>
    PickP t47 (.bool true) t54 w35 K := by
  simp only [eql_r]
  cases h1 : decide (c = 0) with
  | true => rw [h1] at k; simp only [JoinP.eq, PickP.eq, GuardP.yes, GuardP.undef, GuardP.no (show (true == false) = false from rfl), GuardP.no (show (false == true) = false from rfl), CondP.tt, CondP.ff, add_r, sub_r, mul_r, lss_r, leq_r, gtr_r, geq_r, eql_r, neq_r, eqs_r, nes_r, not_r, nil_r, Bool.not_true, Bool.not_false, if_true, if_false, Bool.false_eq_true, decide_true, decide_false, Nat.zero_add, Bool.and_true, Bool.true_and]; simpa using k
  | false =>
    rw [h1] at k
    simp only [JoinP.eq, PickP.eq, GuardP.yes, GuardP.undef, GuardP.no (show (true == false) = false from rfl), GuardP.no (show (false == true) = false from rfl), CondP.tt, CondP.ff, add_r, sub_r, mul_r, lss_r, leq_r, gtr_r, geq_r, eql_r, neq_r, eqs_r, nes_r, not_r, nil_r, Bool.not_true, Bool.not_false, if_true, if_false, Bool.false_eq_true, decide_true, decide_false, Nat.zero_add, Bool.and_true, Bool.true_and]
    cases h2 : decide (c < la) with
    | true => rw [h2] at k; simp only [JoinP.eq, PickP.eq, GuardP.yes, GuardP.undef, GuardP.no (show (true == false) = false from rfl), GuardP.no (show (false == true) = false from rfl), CondP.tt, CondP.ff, add_r, sub_r, mul_r, lss_r, leq_r, gtr_r, geq_r, eql_r, neq_r, eqs_r, nes_r, not_r, nil_r, Bool.not_true, Bool.not_false, if_true, if_false, Bool.false_eq_true, decide_true, decide_false, Nat.zero_add, Bool.and_true, Bool.true_and]; simpa using k
    | false =>
      rw [h2] at k
      simp only [JoinP.eq, PickP.eq, GuardP.yes, GuardP.undef, GuardP.no (show (true == false) = false from rfl), GuardP.no (show (false == true) = false from rfl), CondP.tt, CondP.ff, add_r, sub_r, mul_r, lss_r, leq_r, gtr_r, geq_r, eql_r, neq_r, eqs_r, nes_r, not_r, nil_r, Bool.not_true, Bool.not_false, if_true, if_false, Bool.false_eq_true, decide_true, decide_false, Nat.zero_add, Bool.and_true, Bool.true_and]
      cases h3 : decide (c = 1) with
      | true =>
        have hc : c = 1 := of_decide_eq_true h3
        subst hc
        rw [h3] at k
        simp only [JoinP.eq, PickP.eq, GuardP.yes, GuardP.undef, GuardP.no (show (true == false) = false from rfl), GuardP.no (show (false == true) = false from rfl), CondP.tt, CondP.ff, add_r, sub_r, mul_r, lss_r, leq_r, gtr_r, geq_r, eql_r, neq_r, eqs_r, nes_r, not_r, nil_r, Bool.not_true, Bool.not_false, if_true, if_false, Bool.false_eq_true, decide_true, decide_false, Nat.zero_add, Bool.and_true, Bool.true_and]
        cases h4 : decide (0 < (i : Int)) with
        | true => rw [h4] at k; simp only [JoinP.eq, PickP.eq, GuardP.yes, GuardP.undef, GuardP.no (show (true == false) = false from rfl), GuardP.no (show (false == true) = false from rfl), CondP.tt, CondP.ff, add_r, sub_r, mul_r, lss_r, leq_r, gtr_r, geq_r, eql_r, neq_r, eqs_r, nes_r, not_r, nil_r, Bool.not_true, Bool.not_false, if_true, if_false, Bool.false_eq_true, decide_true, decide_false, Nat.zero_add, Bool.and_true, Bool.true_and]; simpa using k
        | false =>
          rw [h4] at k
          simp only [JoinP.eq, PickP.eq, GuardP.yes, GuardP.undef, GuardP.no (show (true == false) = false from rfl), GuardP.no (show (false == true) = false from rfl), CondP.tt, CondP.ff, add_r, sub_r, mul_r, lss_r, leq_r, gtr_r, geq_r, eql_r, neq_r, eqs_r, nes_r, not_r, nil_r, Bool.not_true, Bool.not_false, if_true, if_false, Bool.false_eq_true, decide_true, decide_false, Nat.zero_add, Bool.and_true, Bool.true_and, show decide ((1 : Int) = 2) = false from rfl, show decide ((2 : Int) < 1) = false from rfl] at k ⊢
          simpa using k
      | false =>
        rw [h3] at k
        simp only [JoinP.eq, PickP.eq, GuardP.yes, GuardP.undef, GuardP.no (show (true == false) = false from rfl), GuardP.no (show (false == true) = false from rfl), CondP.tt, CondP.ff, add_r, sub_r, mul_r, lss_r, leq_r, gtr_r, geq_r, eql_r, neq_r, eqs_r, nes_r, not_r, nil_r, Bool.not_true, Bool.not_false, if_true, if_false, Bool.false_eq_true, decide_true, decide_false, Nat.zero_add, Bool.and_true, Bool.true_and]
        cases h5 : decide (c = 2) with
        | true =>
          have hc : c = 2 := of_decide_eq_true h5
          subst hc
          rw [h5] at k
          simp only [JoinP.eq, PickP.eq, GuardP.yes, GuardP.undef, GuardP.no (show (true == false) = false from rfl), GuardP.no (show (false == true) = false from rfl), CondP.tt, CondP.ff, add_r, sub_r, mul_r, lss_r, leq_r, gtr_r, geq_r, eql_r, neq_r, eqs_r, nes_r, not_r, nil_r, Bool.not_true, Bool.not_false, if_true, if_false, Bool.false_eq_true, decide_true, decide_false, Nat.zero_add, Bool.and_true, Bool.true_and]
          cases st with
          | true => simp only [JoinP.eq, PickP.eq, GuardP.yes, GuardP.undef, GuardP.no (show (true == false) = false from rfl), GuardP.no (show (false == true) = false from rfl), CondP.tt, CondP.ff, add_r, sub_r, mul_r, lss_r, leq_r, gtr_r, geq_r, eql_r, neq_r, eqs_r, nes_r, not_r, nil_r, Bool.not_true, Bool.not_false, if_true, if_false, Bool.false_eq_true, decide_true, decide_false, Nat.zero_add, Bool.and_true, Bool.true_and]; simpa using k
          | false => simp only [JoinP.eq, PickP.eq, GuardP.yes, GuardP.undef, GuardP.no (show (true == false) = false from rfl), GuardP.no (show (false == true) = false from rfl), CondP.tt, CondP.ff, add_r, sub_r, mul_r, lss_r, leq_r, gtr_r, geq_r, eql_r, neq_r, eqs_r, nes_r, not_r, nil_r, Bool.not_true, Bool.not_false, if_true, if_false, Bool.false_eq_true, decide_true, decide_false, Nat.zero_add, Bool.and_true, Bool.true_and, show decide ((2 : Int) < 2) = false from rfl] at k ⊢; simpa using k
        | false =>
          rw [h5] at k
          simp only [JoinP.eq, PickP.eq, GuardP.yes, GuardP.undef, GuardP.no (show (true == false) = false from rfl), GuardP.no (show (false == true) = false from rfl), CondP.tt, CondP.ff, add_r, sub_r, mul_r, lss_r, leq_r, gtr_r, geq_r, eql_r, neq_r, eqs_r, nes_r, not_r, nil_r, Bool.not_true, Bool.not_false, if_true, if_false, Bool.false_eq_true, decide_true, decide_false, Nat.zero_add, Bool.and_true, Bool.true_and]
          cases h6 : decide (2 < c) with
          | true => rw [h6] at k; cases st <;> simp only [JoinP.eq, PickP.eq, GuardP.yes, GuardP.undef, GuardP.no (show (true == false) = false from rfl), GuardP.no (show (false == true) = false from rfl), CondP.tt, CondP.ff, add_r, sub_r, mul_r, lss_r, leq_r, gtr_r, geq_r, eql_r, neq_r, eqs_r, nes_r, not_r, nil_r, Bool.not_true, Bool.not_false, if_true, if_false, Bool.false_eq_true, decide_true, decide_false, Nat.zero_add, Bool.and_true, Bool.true_and] <;> simpa using k
          | false => rw [h6] at k; simp only [JoinP.eq, PickP.eq, GuardP.yes, GuardP.undef, GuardP.no (show (true == false) = false from rfl), GuardP.no (show (false == true) = false from rfl), CondP.tt, CondP.ff, add_r, sub_r, mul_r, lss_r, leq_r, gtr_r, geq_r, eql_r, neq_r, eqs_r, nes_r, not_r, nil_r, Bool.not_true, Bool.not_false, if_true, if_false, Bool.false_eq_true, decide_true, decide_false, Nat.zero_add, Bool.and_true, Bool.true_and]; simpa using k
end Go.V
namespace Go.Proofs.YtmgleeoecdodjaaDoor.Sh
open Go Go.V Go.RowKit

/-- A number picked is one of 0 .. n - 1. -/
theorem pick {a : Int} {n : Nat} {w : World} (hn : 1 ≤ n) (hn' : n ≤ 4294967296) : Does Tryd.prog 22 [.int .i64 a, .int .i64 (n : Int)] w fun v w' => (∃ c : Nat, c < n ∧ v = .int .i64 (c : Int)) ∧ w' = w := by
  refine D22 ?_
  unfold S22
  have h1 : a.tmod (n : Int) < n := Int.tmod_lt_of_pos _ (by omega)
  have h2 : -(n : Int) < a.tmod (n : Int) := by
    have := Int.lt_tmod_of_pos a (show (0 : Int) < n by omega)
    omega
  simp only [lss_r]
  rw [decide_eq_false (show ¬ (n : Int) < 1 by omega)]
  simp only [JoinP.eq, PickP.eq, GuardP.yes, GuardP.undef, GuardP.no (show (true == false) = false from rfl), GuardP.no (show (false == true) = false from rfl), CondP.tt, CondP.ff, add_r, sub_r, mul_r, lss_r, leq_r, gtr_r, geq_r, eql_r, neq_r, eqs_r, nes_r, not_r, nil_r, Bool.not_true, Bool.not_false, if_true, if_false, Bool.false_eq_true, decide_true, decide_false, Nat.zero_add, Bool.and_true, Bool.true_and]
  rw [Pure.run (p_rem (by omega))]
  simp only [lss_r]
  refine CondP.dec (fun h => ?_) (fun h => ?_)
  · simp only [add_r]
    rw [wrap64_id (by omega) (by omega)]
    exact ⟨⟨(a.tmod (n : Int) + n).toNat, by omega, by rw [Int.toNat_of_nonneg (by omega)]⟩, by first | rfl | trivial⟩
  · exact ⟨⟨(a.tmod (n : Int)).toNat, by omega, by rw [Int.toNat_of_nonneg (by omega)]⟩, by first | rfl | trivial⟩

/-! The order of kinds. -/
def lastK (ks : List Int) (k : Nat) : Int := if k = 0 then 0 else ks.getD (k - 1) 0
/-- The kind c may not stand at the place i behind a kind last. -/
def wrong (c last : Int) (i : Nat) : Bool := decide (c = 0) || decide (c < last) || (decide (c = 1) && decide (0 < i)) || (decide (c = 2) && decide (2 ≤ last)) || (decide (2 < c) && !decide (2 ≤ last))
def wrongAt (ks : List Int) (i : Nat) : Bool := wrong (ks.getD i 0) (lastK ks i) i
/-- What is said of kinds in this order. -/
inductive Ord (ks : List Int) : Int → Nat → Prop where
  | form (i : Nat) (hi : i < ks.length) (hw : wrongAt ks i = true) (hb : ∀ j, j < i → wrongAt ks j = false) : Ord ks 4 i
  | short (hb : ∀ j, j < ks.length → wrongAt ks j = false) (hl : lastK ks ks.length < 2) : Ord ks 2 ks.length
  | ok (hb : ∀ j, j < ks.length → wrongAt ks j = false) (hl : 2 ≤ lastK ks ks.length) : Ord ks 0 0
theorem Ord.unique {ks : List Int} {a b : Int} {i j : Nat} (h : Ord ks a i) (k : Ord ks b j) : a = b ∧ i = j := by
  cases h with
  | form _ hi hw hb =>
    cases k with
    | form _ hi' hw' hb' =>
      refine ⟨rfl, ?_⟩
      rcases Nat.lt_trichotomy i j with h | h | h
      · have := hb' i h; rw [hw] at this; cases this
      · exact h
      · have := hb j h; rw [hw'] at this; cases this
    | short hb' hl' => have := hb' i hi; rw [hw] at this; cases this
    | ok hb' hl' => have := hb' i hi; rw [hw] at this; cases this
  | short hb hl =>
    cases k with
    | form _ hi' hw' hb' => have := hb j hi'; rw [hw'] at this; cases this
    | short hb' hl' => exact ⟨rfl, rfl⟩
    | ok hb' hl' => omega
  | ok hb hl =>
    cases k with
    | form _ hi' hw' hb' => have := hb j hi'; rw [hw'] at this; cases this
    | short hb' hl' => omega
    | ok hb' hl' => exact ⟨rfl, rfl⟩
theorem lastK_succ {ks : List Int} {k : Nat} {c : Int} (h : ks[k]? = some c) : lastK ks (k + 1) = c := by
  simp [lastK, List.getD, h]
theorem wrongAt_of {ks : List Int} {k : Nat} {c : Int} (h : ks[k]? = some c) : wrongAt ks k = wrong c (lastK ks k) k := by
  simp [wrongAt, List.getD, h]
/-- The kinds' order, as the document tells it. -/
theorem order {l : Value} {ks : List Int} {w : World} (hl : Own w 3 1 l ks.length (ks.map (Value.int .i64))) (hn : ks.length ≤ 1073741824) (h0 : ∀ c ∈ ks, 0 ≤ c) :
    Does Tryd.prog 7 [l] w fun v w' => (∃ (no : Int) (i : Nat), Ord ks no i ∧ v = .tuple #[.int .i64 no, .int .i64 (i : Int)]) ∧ Ext w w' := by
  refine D7 ?_
  unfold S7
  obtain ⟨p, c, rfl, hpc⟩ := hl.len
  simp only [JoinP.eq]
  refine LoopP.of5 (fun _ _ la st i w' => ∃ k : Nat, k ≤ ks.length ∧ i = .int .i64 k ∧ la = .int .i64 (lastK ks k) ∧ st = .bool (decide (2 ≤ lastK ks k)) ∧ (∀ j, j < k → wrongAt ks j = false) ∧ Ext w w') (fun _ _ _ _ i _ => ks.length - (intOf i).toNat)
    ⟨0, Nat.zero_le _, rfl, rfl, rfl, fun j hj => by omega, Ext.refl _⟩ ?_
  rintro t2 t3 _ _ _ w1 ⟨k, hk, rfl, rfl, rfl, hb, hx⟩
  simp only [Pure.run (p_len sl33.slice), lss_r]
  refine CondP.dec (fun h => ?_) (fun h => ?_)
  · have hk' : k < ks.length := by omega
    obtain ⟨c0, hc0⟩ : ∃ c0, ks[k]? = some c0 := ⟨ks[k], by simp [hk']⟩
    have hc00 := h0 c0 (List.mem_of_getElem? hc0)
    obtain ⟨g, rfl, hcell⟩ := (hl.ext hx).cell1 (g := 0) (k := k) (v := .int .i64 c0) (by rw [List.getElem?_map, hc0]; rfl)
    have pL : Pure Tryd.prog (Instr.indexAt 33 (.slice (some ⟨g, 0, none⟩) ks.length c) (.int .i64 (k : Int))) (.pointer (some ⟨g, k, none⟩)) := by
      have := pIdx (b := g) (c := c) sl33.slice size3 hk'
      simpa using this
    simp only [JoinP.eq]
    rw [Pure.run pL, ldc one3 hcell]
    refine r_wrong ?_
    have hwr := wrongAt_of hc0
    have hls := lastK_succ hc0
    generalize hla : lastK ks k = la at *
    have hwe : (decide (c0 = 0) || decide (c0 < la) || (decide (c0 = 1) && decide (0 < (k : Int))) || (decide (c0 = 2) && decide (2 ≤ la)) || (decide (2 < c0) && !decide (2 ≤ la))) = wrongAt ks k := by
      rw [hwr]; unfold wrong
      rw [show decide (0 < (k : Int)) = decide (0 < k) from decide_eq_decide.2 (by omega)]
    rw [hwe]
    refine CondP.of (fun h => ⟨⟨4, k, .form k hk' h hb, rfl⟩, hx⟩) (fun h => ?_)
    have fin : ∀ (st : Bool), st = decide (2 ≤ c0) → (∃ k_1 : Nat, k_1 ≤ ks.length ∧ Value.int .i64 (IntKind.i64.wrap ((k : Int) + 1)) = .int .i64 (k_1 : Nat) ∧ Value.int .i64 c0 = .int .i64 (lastK ks k_1) ∧ Value.bool st = .bool (decide (2 ≤ lastK ks k_1)) ∧ (∀ j, j < k_1 → wrongAt ks j = false) ∧ Ext w w1) ∧
        ks.length - (intOf (Value.int .i64 (IntKind.i64.wrap ((k : Int) + 1)))).toNat < ks.length - (intOf (.int .i64 (k : Int))).toNat := by
      rintro st rfl
      refine ⟨⟨k + 1, by omega, succ64 (by omega), by rw [hls], by rw [hls], fun j hj => ?_, hx⟩, ?_⟩
      · rcases Nat.lt_or_ge j k with h' | h'
        · exact hb j h'
        · obtain rfl : j = k := by omega
          exact h
      · rw [succ64 (by omega)]; simp [intOf]; omega
    rw [hwr] at h
    unfold wrong at h
    simp only [Bool.or_eq_false_iff, Bool.and_eq_false_iff, decide_eq_false_iff_not, Bool.not_eq_false', decide_eq_true_eq] at h
    by_cases h6 : 2 ≤ la
    · rw [decide_eq_true h6]
      simp only [JoinP.eq, PickP.eq, GuardP.yes, GuardP.undef, GuardP.no (show (true == false) = false from rfl), GuardP.no (show (false == true) = false from rfl), CondP.tt, CondP.ff, add_r, sub_r, mul_r, lss_r, leq_r, gtr_r, geq_r, eql_r, neq_r, eqs_r, nes_r, not_r, nil_r, Bool.not_true, Bool.not_false, if_true, if_false, Bool.false_eq_true, decide_true, decide_false, Nat.zero_add, Bool.and_true, Bool.true_and]
      exact fin true (by rw [decide_eq_true (show 2 ≤ c0 by omega)])
    · rw [decide_eq_false h6]
      simp only [JoinP.eq, PickP.eq, GuardP.yes, GuardP.undef, GuardP.no (show (true == false) = false from rfl), GuardP.no (show (false == true) = false from rfl), CondP.tt, CondP.ff, add_r, sub_r, mul_r, lss_r, leq_r, gtr_r, geq_r, eql_r, neq_r, eqs_r, nes_r, not_r, nil_r, Bool.not_true, Bool.not_false, if_true, if_false, Bool.false_eq_true, decide_true, decide_false, Nat.zero_add, Bool.and_true, Bool.true_and]
      exact fin _ (decide_eq_decide.2 (by omega))
  · obtain rfl : k = ks.length := by omega
    by_cases h6 : 2 ≤ lastK ks ks.length
    · rw [decide_eq_true h6]
      simp only [JoinP.eq, PickP.eq, GuardP.yes, GuardP.undef, GuardP.no (show (true == false) = false from rfl), GuardP.no (show (false == true) = false from rfl), CondP.tt, CondP.ff, add_r, sub_r, mul_r, lss_r, leq_r, gtr_r, geq_r, eql_r, neq_r, eqs_r, nes_r, not_r, nil_r, Bool.not_true, Bool.not_false, if_true, if_false, Bool.false_eq_true, decide_true, decide_false, Nat.zero_add, Bool.and_true, Bool.true_and]
      exact ⟨⟨0, 0, .ok hb h6, rfl⟩, hx⟩
    · rw [decide_eq_false h6]
      simp only [JoinP.eq, PickP.eq, GuardP.yes, GuardP.undef, GuardP.no (show (true == false) = false from rfl), GuardP.no (show (false == true) = false from rfl), CondP.tt, CondP.ff, add_r, sub_r, mul_r, lss_r, leq_r, gtr_r, geq_r, eql_r, neq_r, eqs_r, nes_r, not_r, nil_r, Bool.not_true, Bool.not_false, if_true, if_false, Bool.false_eq_true, decide_true, decide_false, Nat.zero_add, Bool.and_true, Bool.true_and, Pure.run (p_len sl33.slice)]
      exact ⟨⟨2, ks.length, .short hb (by omega), rfl⟩, hx⟩
end Go.Proofs.YtmgleeoecdodjaaDoor.Sh
