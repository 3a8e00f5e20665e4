/- Rules take frames; a new ring. Conditions: lengths up to 2^30. -/
import Derived.Test.YtfdjkdiebabimaaCb
set_option linter.unusedVariables false
set_option linter.unusedSimpArgs false
set_option maxRecDepth 10000
namespace Go.Proofs.Ytfdjkdiebabimaa.Sh
open Go Go.V Go.RowKit Go.Proofs.Ytfdjkdiebabimaa.Bp

def hitP (f : DFr) (r : DRule) : Bool := decide (r.wide = f.wide) && decide ((f.id ^^^ r.code) &&& r.mask = 0)
def takesP (l : List DRule) (f : DFr) : Bool := l.any (hitP f) || decide (l.length = 0)
theorem takes {m : Mem} {u v : Value} {l : List DRule} {f : DFr} {w : World} (hm : Sub m w) (hv : Rules m v l) (hn : l.length ≤ 140737488355328) (hid : f.id < 4294967296) :
    Does Try.prog 19 [v, frA f u] w fun r w' => Ext w w' ∧ r = .bool (takesP l f) := by
  obtain ⟨p, c, rfl, hc⟩ := hv.form
  refine D19 ?_
  unfold S19
  refine r_box fun w1 e1 z1 b1 => ?_
  have b1 : Blk w1 w.heap.size (frC f u) 35 := b1
  simp only [Pure.run (p_len sl57.slice), JoinP.eq]
  refine LoopP.of2 (fun _ i w' => ∃ k : Nat, k ≤ l.length ∧ i = .int .i64 k ∧ (l.take k).any (hitP f) = false ∧ Ext w1 w') (fun _ i _ => l.length - (intOf i).toNat) ⟨0, Nat.zero_le _, rfl, rfl, Ext.refl _⟩ ?_
  rintro _ _ w2 ⟨k, hk, rfl, hno, e2⟩
  try simp only [lss_r]
  refine CondP.dec (fun h => ?_) (fun h => ?_)
  · have hk' : k < l.length := by omega
    obtain ⟨x, hx⟩ : ∃ x, l[k]? = some x := ⟨l[k], by simp⟩
    obtain ⟨bl, ol, cs, rfl, _, _, _, hat, rfl, hc1, hc2⟩ := hv.get hx
    try simp only [JoinP.eq]
    rw [Pure.run (p_idx (e := 69) (sz := 3) sl57.slice size69 (by omega) (by omega))]
    refine r_loadN agg69 (l := ruleC x) rfl (by have := hat w2 ((hm.ext e1).ext e2); simpa using this) ?_
    refine r_alloc zero69 fun w3 e3 z3 b3 => ?_
    refine r_store size69 (l := ruleC x) rfl rfl (one_rule _ x ⟨rfl, hc1, hc2⟩) b3 (show 0 + 3 ≤ 3 by decide) fun w4 c4 b4 => ?_
    have b4 : Blk w4 w2.heap.size (ruleC x) 69 := b4
    have x24 : Ext w2 w4 := e3.chg c4 (Nat.le_refl _)
    have x14 := e2.trans x24
    have bf := b1.ext x14
    simp only [Pure.run (p_field (o := 0) fld69_0), Pure.run (p_field (o := 0) fld69_1), Pure.run (p_field (o := 0) fld69_2), Pure.run (p_field (o := 0) fld35_0), Pure.run (p_field (o := 0) fld35_1)]
    rw [ld1 b4 one4 (o := 0 + 0) rfl, ld1 bf one4 (o := 0 + 1) rfl, eqb_r]
    have htk : l.take (k + 1) = l.take k ++ [x] := by rw [List.take_succ_eq_append_getElem hk', (List.getElem?_eq_some_iff.1 hx).2]
    have fin : hitP f x = false → ∀ (t : Value), (∃ k_1 : Nat, k_1 ≤ l.length ∧ Value.int .i64 (IntKind.i64.wrap ((k : Int) + 1)) = .int .i64 (k_1 : Nat) ∧ (l.take k_1).any (hitP f) = false ∧ Ext w1 w4) ∧ l.length - (intOf (Value.int .i64 (IntKind.i64.wrap ((k : Int) + 1)))).toNat < l.length - (intOf (.int .i64 (k : Int))).toNat := by
      intro hh _
      refine ⟨⟨k + 1, by omega, succ64 (by omega), ?_, x14⟩, ?_⟩
      · rw [htk, List.any_append, hno]; simp [hh]
      · rw [succ64 (by omega)]; simp [intOf]; omega
    by_cases hw : x.wide = f.wide
    · rw [decide_eq_true hw]
      simp only [JoinP.eq, PickP.eq, GuardP.yes, GuardP.undef, GuardP.no (show (true == false) = false from rfl), GuardP.no (show (false == true) = false from rfl), CondP.tt, CondP.ff, add_r, sub_r, mul_r, lss_r, leq_r, gtr_r, geq_r, eql_r, neq_r, eqs_r, nes_r, not_r, nil_r, Bool.not_true, Bool.not_false, if_true, if_false, Bool.false_eq_true, decide_true, decide_false, Nat.zero_add, Bool.and_true, Bool.true_and]
      have hxl : f.id ^^^ x.code < 2 ^ 32 := Nat.xor_lt_two_pow (by simpa using hid) (by simpa using hc1)
      rw [ld1 bf one32 (o := 0 + 0) rfl, ld1 b4 one32 (o := 0 + 1) rfl, Pure.run (p_xor k32 (by simpa [IntKind.bits] using hid) (by simpa [IntKind.bits] using hc1)), ld1 b4 one32 (o := 0 + 2) rfl, Pure.run (p_and k32 (by simpa [IntKind.bits] using hxl) (by simpa [IntKind.bits] using hc2)), eql_r, natdec0]
      by_cases hz : (f.id ^^^ x.code) &&& x.mask = 0
      · rw [decide_eq_true hz]
        simp only [JoinP.eq, PickP.eq, GuardP.yes, GuardP.undef, GuardP.no (show (true == false) = false from rfl), GuardP.no (show (false == true) = false from rfl), CondP.tt, CondP.ff, add_r, sub_r, mul_r, lss_r, leq_r, gtr_r, geq_r, eql_r, neq_r, eqs_r, nes_r, not_r, nil_r, Bool.not_true, Bool.not_false, if_true, if_false, Bool.false_eq_true, decide_true, decide_false, Nat.zero_add, Bool.and_true, Bool.true_and]
        refine ⟨e1.trans x14, ?_⟩
        have : hitP f x = true := by unfold hitP; rw [decide_eq_true hw, decide_eq_true hz]; rfl
        have h2 : l.any (hitP f) = true := List.any_eq_true.2 ⟨x, List.mem_of_getElem? hx, this⟩
        unfold takesP; rw [h2]; rfl
      · rw [decide_eq_false hz]
        simp only [JoinP.eq, PickP.eq, GuardP.yes, GuardP.undef, GuardP.no (show (true == false) = false from rfl), GuardP.no (show (false == true) = false from rfl), CondP.tt, CondP.ff, add_r, sub_r, mul_r, lss_r, leq_r, gtr_r, geq_r, eql_r, neq_r, eqs_r, nes_r, not_r, nil_r, Bool.not_true, Bool.not_false, if_true, if_false, Bool.false_eq_true, decide_true, decide_false, Nat.zero_add, Bool.and_true, Bool.true_and]
        exact fin (by unfold hitP; rw [decide_eq_false hz, Bool.and_false]) .nilIface
    · rw [decide_eq_false hw]
      simp only [JoinP.eq, PickP.eq, GuardP.yes, GuardP.undef, GuardP.no (show (true == false) = false from rfl), GuardP.no (show (false == true) = false from rfl), CondP.tt, CondP.ff, add_r, sub_r, mul_r, lss_r, leq_r, gtr_r, geq_r, eql_r, neq_r, eqs_r, nes_r, not_r, nil_r, Bool.not_true, Bool.not_false, if_true, if_false, Bool.false_eq_true, decide_true, decide_false, Nat.zero_add, Bool.and_true, Bool.true_and]
      exact fin (by unfold hitP; rw [decide_eq_false hw, Bool.false_and]) .nilIface
  · have hk' : k = l.length := by omega
    subst hk'
    rw [List.take_length] at hno
    try simp only [Pure.run (p_len sl57.slice)]
    rw [eql_r, natdec0]
    exact ⟨e1.trans e2, by unfold takesP; rw [hno]; rfl⟩
theorem bQ (p : Option Addr) (n c : Nat) (w : World) : (Instr.build 99 #[(0, .slice p n c)]).run Try.prog w = .ok (.agg #[.slice p n c, .int .i64 0, .int .i64 0]) w := by kernel_rfl
theorem ring0 (N : Nat) : ((List.range N).flatMap fun _ => [Value.int .u32 0, Value.bool false, Value.slice none 0 0]) = (List.replicate N ((DFr.zero, Value.slice none 0 0) : Ent)).flatMap entC := by
  induction N with
  | zero => rfl
  | succ n ih => rw [List.range_succ, List.flatMap_append, ih, List.replicate_succ', List.flatMap_append]; rfl
/-- What a new ring is. -/
structure NewQR (room : Int) (w : World) (r : Value) (w' : World) : Prop where
  ext : Ext w w'
  no : ¬ (1 ≤ room ∧ room ≤ 64) → r = .tuple #[.pointer none, errno 1]
  ok : 1 ≤ room ∧ room ≤ 64 → ∃ bq g, r = .tuple #[.pointer (some ⟨bq, 0, none⟩), .nilIface] ∧ QAt w' bq g room.toNat [] ∧ w.heap.size ≤ bq ∧ w.heap.size ≤ g
theorem newQ {room : Int} {w : World} : Does Try.prog 24 [.int .i64 room] w (NewQR room w) := by
  refine D24 ?_
  unfold S24
  rw [lss_r]
  by_cases h1 : room < 1
  · rw [decide_eq_true h1]
    simp only [JoinP.eq, PickP.eq, GuardP.yes, GuardP.undef, GuardP.no (show (true == false) = false from rfl), GuardP.no (show (false == true) = false from rfl), CondP.tt, CondP.ff, add_r, sub_r, mul_r, lss_r, leq_r, gtr_r, geq_r, eql_r, neq_r, eqs_r, nes_r, not_r, nil_r, Bool.not_true, Bool.not_false, if_true, if_false, Bool.false_eq_true, decide_true, decide_false, Nat.zero_add, Bool.and_true, Bool.true_and]
    rw [Pure.run (i_err _)]
    exact ⟨Ext.refl _, fun _ => rfl, fun h => by omega⟩
  · rw [decide_eq_false h1]
    simp only [JoinP.eq, PickP.eq, GuardP.yes, GuardP.undef, GuardP.no (show (true == false) = false from rfl), GuardP.no (show (false == true) = false from rfl), CondP.tt, CondP.ff, add_r, sub_r, mul_r, lss_r, leq_r, gtr_r, geq_r, eql_r, neq_r, eqs_r, nes_r, not_r, nil_r, Bool.not_true, Bool.not_false, if_true, if_false, Bool.false_eq_true, decide_true, decide_false, Nat.zero_add, Bool.and_true, Bool.true_and]
    by_cases h2 : 64 < room
    · rw [decide_eq_true h2]
      simp only [JoinP.eq, PickP.eq, GuardP.yes, GuardP.undef, GuardP.no (show (true == false) = false from rfl), GuardP.no (show (false == true) = false from rfl), CondP.tt, CondP.ff, add_r, sub_r, mul_r, lss_r, leq_r, gtr_r, geq_r, eql_r, neq_r, eqs_r, nes_r, not_r, nil_r, Bool.not_true, Bool.not_false, if_true, if_false, Bool.false_eq_true, decide_true, decide_false, Nat.zero_add, Bool.and_true, Bool.true_and]
      rw [Pure.run (i_err _)]
      exact ⟨Ext.refl _, fun _ => rfl, fun h => by omega⟩
    · rw [decide_eq_false h2]
      simp only [JoinP.eq, PickP.eq, GuardP.yes, GuardP.undef, GuardP.no (show (true == false) = false from rfl), GuardP.no (show (false == true) = false from rfl), CondP.tt, CondP.ff, add_r, sub_r, mul_r, lss_r, leq_r, gtr_r, geq_r, eql_r, neq_r, eqs_r, nes_r, not_r, nil_r, Bool.not_true, Bool.not_false, if_true, if_false, Bool.false_eq_true, decide_true, decide_false, Nat.zero_add, Bool.and_true, Bool.true_and]
      refine r_make sl97 zero35 (by omega) (Int.le_refl _) (by omega) (by omega) fun w1 g ys hg e1 hb _ hys => ?_
      have hys := hys rfl
      subst hys
      rw [List.append_nil, ring0] at hb
      rw [Run.eq (bQ _ _ _ _)]
      refine r_box fun w2 e2 z2 b2 => ?_
      have b2 : Blk w2 w1.heap.size (qC g room.toNat 0 0) 99 := b2
      refine ⟨e1.trans e2, fun h => absurd ⟨by omega, by omega⟩ h, fun _ => ⟨w1.heap.size, g, rfl, ⟨_, 0, by simp, by omega, by simp, hb.ext e2, b2, fun i f hi => by simp at hi⟩, e1.size, by omega⟩⟩
end Go.Proofs.Ytfdjkdiebabimaa.Sh
