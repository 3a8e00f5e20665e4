/- Lists that were lent, found as they were. Conditions: lengths up to 2^30. -/
import Derived.Test.YtmgleeoecdodjaaV13
import Derived.Test.YtmgleeoecdodjaaTk
set_option linter.unusedVariables false
set_option linter.unusedSimpArgs false
namespace Go.V
open Go.RowKit
variable {P : Program}
/-- Each element is as it was, and the marks behind them. -/
theorem r_kept {α : Type} {t e sz bytes f I F off lt : Nat} {mk : List Value} {mkv cst : Value} {m m' : Mem} {R Rl : List Value → α → Prop} {b c : Nat} {v : Value} {xs : List α} {w : World} {t4 : Value}
    {o1 o2 o3 o4 o5 o6 o7 o8 o9 oa : Operand} (ht : SlT P t e sz bytes) (ha : aggB P e sz = true) (hpl : plainFn P f = true) (hfl : fieldB P e F off = true) (hlt : oneB P lt = true) (hmv : mk[off]? = some mkv)
    (heq : Pure P (binSem .eql lt o9 oa mkv cst) (.bool true)) (ho : LSl m' sz Rl (fun _ => mk) (.slice (some ⟨b, 0, none⟩) xs.length c) xs) (hv : Sl m sz R v xs) (hm : Sub m w) (hm' : Sub m' w) (hn : xs.length ≤ 1073741824)
    (hel : ∀ w1 x cs cs', Ext w w1 → x ∈ xs → Rl cs x → R cs' x → Does P f [.agg cs.toArray, .agg cs'.toArray] w1 (Yes w1)) :
    LoopP 2 (fun (k4 : N2) => (fun (t4 : Value) (i_7 : Value) (w7 : World) =>
      Run P (binSem .lss I o1 o2 i_7 (.int .i64 (xs.length : Nat))) w7 fun t21 w8 =>
      CondP t21 0 (fun (k5 : N0) => k5 w8)
      (fun (k6 : N0) =>
        LoopP 2 (fun (k11 : N2) => (fun (t4 : Value) (i_8 : Value) (w16 : World) =>
          Run P (Builtin.len_ #[t] I #[.slice (some ⟨b, 0, none⟩) (xs.length + 16) c]) w16 fun t37 w17 =>
          Run P (binSem .lss I o3 o4 i_8 t37) w17 fun t38 w18 =>
          CondP t38 0 (fun (k12 : N0) => k12 w18)
          (fun (k13 : N0) => Yes w (.bool true) w18)
          (fun (w19 : World) =>
            Run P (Instr.indexAt t (.slice (some ⟨b, 0, none⟩) (xs.length + 16) c) i_8) w19 fun t43 w20 =>
            Run P (Instr.fieldAt e t43 F) w20 fun t44 w21 =>
            Run P (Instr.loadAt lt t44) w21 fun t45 w22 =>
            Run P (binSem .eql lt o9 oa t45 cst) w22 fun t46 w23 =>
            Run P (Op.unary .not t46) w23 fun t47 w24 =>
            CondP t47 1 (fun (k15 : N1) => Yes w (.bool false) w24)
            (fun (k16 : N1) => k16 t4 w24)
            (fun (t4 : Value) (w26 : World) =>
              Run P (binSem .add I o5 o6 i_8 (.int .i64 1)) w26 fun t40 w27 => k11 t4 t40 w27))))
        [t4, (.int .i64 (xs.length : Nat))] w8)
      (fun (w9 : World) =>
        ∀ w10, Ext w9 w10 →
        RunQ P (Instr.indexAt t (.slice (some ⟨b, 0, none⟩) (xs.length + 16) c) i_7) w10 fun t26 =>
        RunQ P (Instr.loadAt e t26) w10 fun t27 =>
        RunQ P (Instr.indexAt t v i_7) w10 fun t30 =>
        RunQ P (Instr.loadAt e t30) w10 fun t31 =>
        GoN P (callFunc f #[t27, t31]) w10 fun t32 w11 => Ext w10 w11 ∧
        RunQ P (Op.unary .not t32) w10 fun t33 =>
        CondP t33 1 (fun (k8 : N1) => Yes w (.bool false) w11)
        (fun (k9 : N1) => k9 t4 w11)
        (fun (t4 : Value) (w13 : World) =>
          Run P (binSem .add I o7 o8 i_7 (.int .i64 1)) w13 fun t23 w14 => k4 t4 t23 w14))))
    [t4, (.int .i64 0)] w := by
  obtain ⟨b', c', e1, hc, h1, h2⟩ := ho.h
  injection e1 with e1 e2 e3
  injection e1 with e1
  injection e1 with e1
  subst e1; subst e3
  obtain ⟨p, cl, rfl, hcl⟩ := hv.form
  refine LoopP.of2 (fun _ i w' => ∃ k : Nat, k ≤ xs.length ∧ i = .int .i64 k ∧ Ext w w') (fun _ i _ => xs.length - (intOf i).toNat) ⟨0, Nat.zero_le _, rfl, Ext.refl _⟩ ?_
  rintro r i w1 ⟨k, hk, rfl, hext⟩
  simp only [lss_r]
  refine CondP.dec (fun h => ?_) (fun h => ?_)
  · have hk' : k < xs.length := by omega
    obtain ⟨x, hx⟩ : ∃ x, xs[k]? = some x := ⟨xs[k], by simp [hk']⟩
    obtain ⟨bl, ol, cs', rfl, _, _, hcl', hat, hR⟩ := hv.get hx
    obtain ⟨cs, hcs, hc1, hRl⟩ := h1 k x hx
    intro w2 f2
    have hx2 := hext.trans f2
    rw [Pure.runQ (p_idx (e := e) (sz := sz) ht.slice ht.size (by omega) (by omega))]
    refine q_loadN ha hcs (fun j u hj => by have := (hm'.ext hx2) _ _ _ (hc1 j u hj); simpa using this) ?_
    rw [Pure.runQ (p_idx (e := e) (sz := sz) ht.slice ht.size (by omega) (by omega))]
    refine q_loadN ha hcl' (by have := hat w2 (hm.ext hx2); simpa using this) ?_
    refine GoN.does hpl (hel w2 x cs cs' hx2 (List.mem_of_getElem? hx) hRl hR) ?_
    rintro _ w3 ⟨rfl, f3⟩
    refine ⟨f3, ?_⟩
    simp only [PickQ.eq, GuardQ.yes, GuardQ.undef, GuardQ.no (show (true == false) = false from rfl), GuardQ.no (show (false == true) = false from rfl), eql_q, neq_q, lss_q, add_q, sub_q, eqs_q, nes_q, not_q, JoinP.eq, PickP.eq, GuardP.yes, GuardP.undef, GuardP.no (show (true == false) = false from rfl), GuardP.no (show (false == true) = false from rfl), CondP.tt, CondP.ff, add_r, sub_r, mul_r, lss_r, leq_r, gtr_r, geq_r, eql_r, neq_r, eqs_r, nes_r, not_r, nil_r, Bool.not_true, Bool.not_false, if_true, if_false, Bool.false_eq_true, decide_true, decide_false, Nat.zero_add, Bool.and_true, Bool.true_and]
    refine ⟨⟨k + 1, by omega, succ64 (by omega), hx2.trans f3⟩, ?_⟩
    rw [succ64 (by omega)]; simp [intOf]; omega
  · refine LoopP.of2 (fun _ i w' => ∃ k : Nat, xs.length ≤ k ∧ k ≤ xs.length + 16 ∧ i = .int .i64 k ∧ Ext w w') (fun _ i _ => xs.length + 16 - (intOf i).toNat) ⟨xs.length, Nat.le_refl _, by omega, rfl, hext⟩ ?_
    rintro r i w2 ⟨k, hk1, hk2, rfl, hext⟩
    simp only [Pure.run (p_len ht.slice), lss_r]
    refine CondP.dec (fun h => ?_) (fun h => ?_)
    · have hk' : k < xs.length + 16 := by omega
      show Run _ _ _ _
      rw [Pure.run (p_idx (e := e) (sz := sz) ht.slice ht.size (by omega) (by omega)), Pure.run (p_field hfl)]
      have hcell : w2.cell? ⟨b, 0 + (k : Int).toNat * sz + off, none⟩ = some mkv := by
        have := h2 (k - xs.length) (by omega) off mkv hmv
        rw [show xs.length + (k - xs.length) = k by omega] at this
        have := (hm'.ext hext) _ _ _ this
        simpa using this
      rw [ldc hlt hcell, Pure.run heq]
      simp only [JoinP.eq, PickP.eq, GuardP.yes, GuardP.undef, GuardP.no (show (true == false) = false from rfl), GuardP.no (show (false == true) = false from rfl), CondP.tt, CondP.ff, add_r, sub_r, mul_r, lss_r, leq_r, gtr_r, geq_r, eql_r, neq_r, eqs_r, nes_r, not_r, nil_r, Bool.not_true, Bool.not_false, if_true, if_false, Bool.false_eq_true, decide_true, decide_false, Nat.zero_add, Bool.and_true, Bool.true_and]
      refine ⟨⟨k + 1, by omega, by omega, succ64 (by omega), hext⟩, ?_⟩
      rw [succ64 (by omega)]; simp [intOf]; omega
    · exact ⟨rfl, hext⟩
end Go.V
