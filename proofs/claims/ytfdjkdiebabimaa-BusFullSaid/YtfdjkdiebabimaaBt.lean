/- The sum of a row of bits; numbers put behind it; stuffing. Conditions: lengths up to 2^30. -/
import Derived.Test.YtfdjkdiebabimaaBs
set_option linter.unusedVariables false
set_option linter.unusedSimpArgs false
set_option maxRecDepth 10000
namespace Go.Proofs.Ytfdjkdiebabimaa.Sh
open Go Go.V Go.RowKit Go.Proofs.Ytfdjkdiebabimaa.Bp

theorem bCrc (w : World) : (Instr.build 141 #[]).run Try.prog w = .ok (.agg #[.int .u16 0]) w := by kernel_rfl
theorem crcNew (w : World) : Does Try.prog 58 [] w fun v w' => v = .pointer (some ⟨w.heap.size, 0, none⟩) ∧ Ext w w' ∧ Blk w' w.heap.size [.int .u16 0] 141 := by
  refine D58 ?_
  unfold S58
  rw [Run.eq (bCrc _)]
  refine r_box fun w1 e1 z1 b1 => ?_
  exact ⟨rfl, e1, b1⟩
theorem crcFrom_snoc (r : Nat) (l : List Bool) (b : Bool) : crcFrom r (l ++ [b]) = crcStep (crcFrom r l) b := by simp [crcFrom]
theorem crcSum {m : Mem} {v : Value} {l : List Bool} {w : World} (hm : Sub m w) (hl : Bits m v l) (hn : l.length ≤ 1073741824) :
    Does Try.prog 48 [v] w fun r w' => r = .int .u16 ((crcP l : Nat) : Int) ∧ Ext w w' := by
  obtain ⟨p, c, rfl, hc⟩ := hl.form
  refine D48 ?_
  unfold S48
  refine GoN.does pl58 (crcNew w) ?_
  rintro _ w1 ⟨rfl, e1, b1⟩
  simp only [Pure.run (p_len sl52.slice), JoinP.eq]
  refine LoopP.of1 (fun i w' => ∃ k : Nat, k ≤ l.length ∧ i = .int .i64 k ∧ Ext w w' ∧ Blk w' w.heap.size [.int .u16 ((crcP (l.take k) : Nat) : Int)] 141) (fun i _ => l.length - (intOf i).toNat) ⟨0, Nat.zero_le _, rfl, e1, b1⟩ ?_
  rintro _ w2 ⟨k, hk, rfl, e2, b2⟩
  simp only [lss_r]
  refine CondP.dec (fun h => ?_) (fun h => ?_)
  · have hk' : k < l.length := by omega
    obtain ⟨s, hs⟩ : ∃ s, l[k]? = some s := ⟨l[k], by simp [hk']⟩
    obtain ⟨bl, ol, cs, rfl, _, _, _, hat, rfl⟩ := hl.get hs
    try simp only [JoinP.eq]
    rw [Pure.run (p_idx (e := 4) (sz := 1) sl52.slice size4 (by omega) (by omega))]
    refine r_load1 one4 (v := .bool s) (hat w2 (hm.ext e2) 0 _ rfl) ?_
    rw [nil_r, Pure.run (p_field (o := 0) fld141_0)]
    refine GoN.does pl59 (crcAdd b2 (crcP_lt _)) ?_
    rintro _ w3 ⟨c3, b3⟩
    simp only [add_r]
    refine ⟨⟨k + 1, by omega, succ64 (by omega), e2.chg c3 (Nat.le_refl _), ?_⟩, ?_⟩
    · have : crcP (l.take (k + 1)) = crcStep (crcP (l.take k)) s := by
        rw [List.take_succ_eq_append_getElem hk', (List.getElem?_eq_some_iff.1 hs).2]
        exact crcFrom_snoc _ _ _
      rw [this]; exact b3
    · rw [succ64 (by omega)]; simp [intOf]; omega
  · rw [List.take_of_length_le (by omega)] at b2
    rw [nil_r, Pure.run (p_field (o := 0) fld141_0)]
    refine GoN.does pl60 (R := fun r w' => r = .int .u16 ((crcP l : Nat) : Int) ∧ w2 = w') ?_ ?_
    · refine D60 ?_
      unfold S60
      rw [nil_r, Pure.run (p_field (o := 0) fld139_0), ld1 b2 one111 (o := 0 + 0 + 0) rfl]
      exact ⟨rfl, rfl⟩
    · rintro _ w3 ⟨rfl, rfl⟩
      exact ⟨rfl, e2⟩
theorem bitsN_take (v n k : Nat) (h : k < n) : (bitsN v n).take (k + 1) = (bitsN v n).take k ++ [v.testBit (n - 1 - k)] := by
  rw [List.take_succ_eq_append_getElem (by rw [bitsN_len]; exact h)]
  simp [bitsN]
/-- The lowest n bits of a number, put behind a row. -/
theorem put {v : Value} {l : List Bool} {x n : Nat} {w : World} (hl : OBits w v l) (hx : x < 4294967296) (hn : n ≤ 32) (hlen : l.length ≤ 1073741824) :
    Does Try.prog 47 [v, .int .u32 (x : Int), .int .i64 (n : Int)] w fun r w' => OBits w' r (l ++ bitsN x n) ∧ Grw w w' v r := by
  refine D47 ?_
  unfold S47
  simp only [sub_r, JoinP.eq]
  refine LoopP.of2 (fun u i w' => ∃ k : Nat, k ≤ n ∧ i = .int .i64 ((n : Int) - 1 - k) ∧ OBits w' u (l ++ (bitsN x n).take k) ∧ Grw w w' v u) (fun _ i _ => (intOf i + 1).toNat)
    ⟨0, Nat.zero_le _, by rw [wrap64_id (by omega) (by omega)]; simp, by simpa using hl, Grw.refl _ _⟩ ?_
  rintro u _ w1 ⟨k, hk, rfl, ho, hg⟩
  simp only [geq_r]
  refine CondP.dec (fun h => ?_) (fun h => ?_)
  · have hk' : k < n := by omega
    have hi : (n : Int) - 1 - (k : Int) = ((n - 1 - k : Nat) : Int) := by omega
    try simp only [JoinP.eq]
    rw [hi, Pure.run (p_shrN (n := n - 1 - k) (by simp [IntKind.bits]; omega))]
    have hsx : x >>> (n - 1 - k) < 4294967296 := Nat.lt_of_le_of_lt (Nat.shiftRight_le _ _) hx
    have ha : Pure Try.prog (binSem .and 32 (.tmp 17) (.const (.int .u32 1)) (.int .u32 ((x >>> (n - 1 - k) : Nat) : Int)) (.int .u32 1)) (.int .u32 ((x >>> (n - 1 - k) &&& 1 : Nat) : Int)) := p_and (b := 1) k32 (by simp [IntKind.bits]; omega) (by decide)
    rw [Pure.run ha]
    simp only [eql_r]
    have hb : decide (((x >>> (n - 1 - k) &&& 1 : Nat) : Int) = 1) = x.testBit (n - 1 - k) := by
      rw [Bool.eq_iff_iff, decide_eq_true_iff, Nat.testBit]
      have h1 : x >>> (n - 1 - k) &&& 1 = x >>> (n - 1 - k) % 2 := Nat.and_one_is_mod _
      rw [Nat.and_comm 1, h1]
      have : x >>> (n - 1 - k) % 2 < 2 := Nat.mod_lt _ (by decide)
      constructor
      · intro h; have : x >>> (n - 1 - k) % 2 = 1 := by omega
        rw [this]; rfl
      · intro h
        rcases (show x >>> (n - 1 - k) % 2 = 0 ∨ x >>> (n - 1 - k) % 2 = 1 by omega) with h2 | h2
        · rw [h2] at h; cases h
        · rw [h2]; rfl
    rw [hb]
    have htl : (l ++ (bitsN x n).take k).length ≤ 1073741856 := by simp [bitsN_len]; omega
    refine r_append1 sl52 ho rfl (all_one rfl) (by unfold maxLen; omega) (by omega) fun u' w2 ho2 hg2 => ?_
    try simp only [sub_r]
    refine ⟨⟨k + 1, by omega, ?_, ?_, hg.trans hg2.grw⟩, ?_⟩
    · rw [wrap64_id (by omega) (by omega)]; congr 1; omega
    · rw [bitsN_take x n k hk', ← List.append_assoc]
      unfold OBits bvals at ho2 ⊢
      rw [List.length_append, List.length_append, List.map_append]
      rw [List.length_append] at ho2
      exact ho2
    · rw [wrap64_id (by omega) (by omega)]; simp only [intOf]; omega
  · have hk' : k = n := by omega
    subst hk'
    rw [List.take_of_length_le (by rw [bitsN_len]; exact Nat.le_refl _)] at ho
    exact ⟨ho, hg⟩

/-- What is alike: the run's two cells. -/
def runC (s : Bool × Nat) : List Value := [.bool s.1, .int .i64 (s.2 : Int)]
theorem see_ {b t : Nat} {s : Bool × Nat} {bit : Bool} {w : World} (hb : Blk w b (runC s) t) (hs : s.2 ≤ 1073741824) :
    Does Try.prog 61 [.pointer (some ⟨b, 0, none⟩), .bool bit] w fun r w' => r = .bool (decide ((see s bit).2 = 5)) ∧ Chg b w w' ∧ Blk w' b (runC (see s bit)) t := by
  refine D61 ?_
  unfold S61
  rw [nil_r, Pure.run (p_field (o := 0) fld144_1), ld1 hb one3 (o := 0 + 1) rfl]
  simp only [gtr_r]
  have fin : ∀ (w1 : World), Chg b w w1 → Blk w1 b (runC (see s bit)) t → 
      Run Try.prog (nilSem (.pointer (some ⟨b, 0, none⟩))) w1 fun t33 w26 => Run Try.prog (Instr.fieldAt 144 t33 1) w26 fun t34 w27 => Run Try.prog (Instr.loadAt 3 t34) w27 fun t35 w28 =>
      Run Try.prog (binSem .eql 3 (.tmp 35) (.const (.int .i64 5)) t35 (.int .i64 5)) w28 fun t36 w29 => t36 = .bool (decide ((see s bit).2 = 5)) ∧ Chg b w w29 ∧ Blk w29 b (runC (see s bit)) t := by
    intro w1 c1 b1
    rw [nil_r, Pure.run (p_field (o := 0) fld144_1), ld1 b1 one3 (o := 0 + 1) rfl, eql_r]
    refine ⟨?_, c1, b1⟩
    congr 1
    exact decide_eq_decide.2 (by omega)
  have other : ∀ (K : NF 0), ¬ (0 < s.2 ∧ s.1 = bit) → (∀ w1, Chg b w w1 → Blk w1 b (runC (see s bit)) t → K w1) →
      Run Try.prog (nilSem (.pointer (some ⟨b, 0, none⟩))) w fun t28 w19 => Run Try.prog (Instr.fieldAt 144 t28 0) w19 fun t29 w20 => RunU Try.prog (Instr.storeAt 4 t29 (.bool bit)) w20 fun w21 =>
      Run Try.prog (nilSem (.pointer (some ⟨b, 0, none⟩))) w21 fun t30 w22 => Run Try.prog (Instr.fieldAt 144 t30 1) w22 fun t31 w23 => RunU Try.prog (Instr.storeAt 3 t31 (.int .i64 1)) w23 fun w24 => K w24 := by
    intro K hno hK
    rw [nil_r, Pure.run (p_field (o := 0) fld144_0)]
    refine r_store size4 (l := [.bool bit]) rfl rfl (all_one rfl) hb (show 0 + 0 + 1 ≤ 2 by decide) fun w1 c1 b1 => ?_
    rw [nil_r, Pure.run (p_field (o := 0) fld144_1)]
    refine r_store size3 (l := [.int .i64 1]) rfl rfl (all_one rfl) b1 (show 0 + 1 + 1 ≤ 2 by decide) fun w2 c2 b2 => ?_
    have hsee : see s bit = (bit, 1) := by unfold see; rw [if_neg hno]
    refine hK w2 ⟨c2.os.trans c1.os, c2.tape.trans c1.tape, c2.output.trans c1.output, c2.size.trans c1.size, fun k hk => (c2.block k hk).trans (c1.block k hk)⟩ ?_
    rw [hsee]; exact b2
  by_cases h0 : 0 < s.2
  · rw [decide_eq_true (show (0 : Int) < (s.2 : Int) by omega)]
    simp only [GuardP.yes]
    rw [nil_r, Pure.run (p_field (o := 0) fld144_0), ld1 hb one4 (o := 0 + 0) rfl, eqb_r]
    simp only [PickP.eq, if_true]
    refine CondP.dec (fun h => ?_) (fun h => ?_)
    · rw [nil_r, Pure.run (p_field (o := 0) fld144_1), ld1 hb one3 (o := 0 + 1) rfl, add_r, nil_r, Pure.run (p_field (o := 0) fld144_1)]
      refine r_store size3 (l := [.int .i64 (((s.2 + 1 : Nat) : Int))]) (by rw [wrap64_id (by omega) (by omega)]; rfl) rfl (all_one rfl) hb (show 0 + 1 + 1 ≤ 2 by decide) fun w1 c1 b1 => ?_
      have hsee : see s bit = (s.1, s.2 + 1) := by unfold see; rw [if_pos ⟨h0, h⟩]
      refine fin w1 c1 ?_
      rw [hsee]; exact b1
    · exact other _ (fun hh => h hh.2) fin
  · rw [decide_eq_false (show ¬ (0 : Int) < (s.2 : Int) by omega)]
    simp only [GuardP.no (show (false == true) = false from rfl), PickP.eq, Bool.false_eq_true, if_false, CondP.ff]
    exact other _ (fun hh => h0 hh.1) fin
end Go.Proofs.Ytfdjkdiebabimaa.Sh
