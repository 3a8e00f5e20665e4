/- That lists of tables, each in a row of its own, are found apart. Conditions: lengths up to 2^30. -/
import Derived.Test.YtmgleeoecdodjaaDoorUl
set_option linter.unusedVariables false
set_option linter.unusedSimpArgs false
set_option maxRecDepth 10000
namespace Go.Proofs.YtmgleeoecdodjaaDoor.Sh
open Go Go.V Go.RowKit

def mkB (k i : Nat) : List Value := [.int .i64 0, .int .i64 0, .int .u32 0, .bool false, .string (markT k i), .slice none 0 0]
theorem bTk (a : ByteArray) (w : World) : (Instr.build 81 #[(3, .string a)]).run Tryd.prog w = .ok (.agg #[.int .i64 0, .int .i64 0, .int .u32 0, .bool false, .string a, .slice none 0 0]) w := by kernel_rfl
theorem bTkQ (a : ByteArray) : Pure Tryd.prog (Instr.build 81 #[(3, .string a)]) (.agg #[.int .i64 0, .int .i64 0, .int .u32 0, .bool false, .string a, .slice none 0 0]) := fun w => bTk a w
theorem apartTables {w : World} {ls : Value} {vs : List Value} {lo hi : Nat} (hls : Own w 30 1 ls vs.length vs) (hown : ∀ (j : Nat) (v : Value), vs[j]? = some v → ∃ n xs, Own w 81 6 v n xs) (hinc : Dis lo vs hi) (hlo : lo ≤ w.heap.size)
    (hb : vs.length ≤ 1073741824) (hn : ∀ (j : Nat) (v : Value), vs[j]? = some v → sLen v ≤ 1073741824) :
    Does Tryd.prog 43 [ls] w (Aparted [81, 30] lo w) := by
  obtain ⟨pl, cl, rfl, hcl⟩ := hls.len
  refine D43 ?_
  unfold S43
  simp only [JoinP.eq]
  refine LoopP.of1 (fun kv w' => ∃ k : Nat, k ≤ vs.length ∧ kv = .int .i64 k ∧ Fill 81 6 mkB vs k 0 w' ∧ Kp [81, 30] 30 lo (.slice pl vs.length cl) vs w w') (fun i _ => vs.length - (intOf i).toNat)
    ⟨0, Nat.zero_le _, rfl, .start hown, Below.refl _ _, Keep.refl _ _, hls⟩ ?_
  rintro kv w1 ⟨k, hk, rfl, hf, hkp⟩
  simp only [Pure.run (p_len sl63.slice), lss_r]
  refine CondP.dec (fun h => ?_) (fun h => ?_)
  · have hk' : k < vs.length := by omega
    obtain ⟨v, hv⟩ : ∃ v, vs[k]? = some v := ⟨vs[k], by simp [hk']⟩
    obtain ⟨gl, rfl, _⟩ := hkp.ls.cell1 (g := 0) hv
    have pL : Pure Tryd.prog (Instr.indexAt 63 (.slice (some ⟨gl, 0, none⟩) vs.length cl) (.int .i64 (k : Int))) (.pointer (some ⟨gl, k, none⟩)) := by
      have := pIdx (b := gl) (c := cl) sl63.slice size30 hk'
      simpa using this
    simp only [JoinP.eq]
    refine LoopP.of1 (fun iv w' => ∃ i : Nat, i ≤ sLen v ∧ iv = .int .i64 i ∧ Fill 81 6 mkB vs k i w' ∧ Kp [81, 30] 30 lo (.slice (some ⟨gl, 0, none⟩) vs.length cl) vs w w') (fun i _ => sLen v - (intOf i).toNat)
      ⟨0, Nat.zero_le _, rfl, hf, hkp⟩ ?_
    clear hf hkp
    rintro iv w2 ⟨i, hi, rfl, hf, hkp⟩
    have hnv := hn k v hv
    obtain ⟨gl', e1, hc⟩ := hkp.ls.cell1 (g := 0) hv
    injection e1 with e1; injection e1 with e1; subst e1
    obtain ⟨xs, ho, _, htk⟩ := hf.h k v hv
    generalize hsl : sLen v = n at *
    obtain ⟨p, c, rfl, hpc⟩ := ho.len
    simp only [Pure.run pL, ldc one30 hc, Pure.run (p_len sl30.slice), lss_r]
    refine CondP.dec (fun h => ?_) (fun h => ?_)
    · have hi' : i < n := by omega
      obtain ⟨g, c', e2, _, _⟩ := ho.at (by omega)
      injection e2 with e2 e3 e4
      subst e2; subst e4
      simp only [JoinP.eq]
      intro w3 f3
      simp only [Pure.runQ pL, ldcQ one30 (cell_ext hc f3)]
      refine GoN.does pl66 (markText k i w3) ?_
      rintro _ w4 ⟨rfl, f4⟩
      refine ⟨f4, ?_⟩
      have f24 := f3.trans f4
      have ho4 := ho.ext f24
      rw [Pure.runQ (bTkQ _), Pure.runQ (pIdx sl30.slice size81 hi')]
      refine r_storeOwn (l := mkB k i) size81 rfl rfl (all_one rfl) ho4 (by have := ho.1; omega) fun w5 c5 ho5 => ?_
      try simp only [add_r]
      refine ⟨⟨i + 1, by omega, succ64 (by omega), ?_, ?_⟩, ?_⟩
      · exact (hf.ext f24).store (fun _ _ => rfl) hinc hv hi' (htk rfl) (by have := ho.1; omega) c5 ho5
      · exact (hkp.ext f24 hlo).chg c5 ho4 rfl ((hinc.get hv g rfl).1) (by simp) (by decide)
      · rw [succ64 (by omega)]; simp [intOf]; omega
    · obtain rfl : i = n := by omega
      simp only [add_r]
      refine ⟨⟨k + 1, by omega, succ64 (by omega), ?_, hkp⟩, ?_⟩
      · have := Fill.next (v := .slice p i c) (by simpa [sLen] using hf) hv
        exact this
      · rw [succ64 (by omega)]; simp [intOf]; omega
  · obtain rfl : k = vs.length := by omega
    have hap := hf.ap hinc
    have hlo1 : lo ≤ w1.heap.size := Nat.le_trans hlo hkp.below.size
    have hlsl : ∀ b, (Value.slice pl vs.length cl).ownBlock = some b → b < w1.heap.size := fun b hb => hkp.ls.lt hb
    refine LoopP.of2 (fun gs kv w' => ∃ (k : Nat) (cur : List Value) (cs : Nat → Nat), k ≤ vs.length ∧ kv = .int .i64 k ∧ Ap 81 6 mkB vs cur cs lo w' ∧ (∀ (j : Nat) (v : Value), vs[j]? = some v → cs j = sLen v + if j < k then 64 else 0) ∧ (∀ j : Nat, k ≤ j → cur[j]? = vs[j]?)
        ∧ Own w' 30 1 gs k (cur.take k) ∧ (∀ b, gs.ownBlock = some b → w1.heap.size ≤ b) ∧ Kp [81, 30] 30 lo (.slice pl vs.length cl) vs w w' ∧ w1.heap.size ≤ w'.heap.size) (fun _ i _ => vs.length - (intOf i).toNat)
      ⟨0, vs, _, Nat.zero_le _, rfl, hap, fun j v hv => by simp [hv], fun _ _ => rfl, Own.nil _ _ _, fun b hb => by simp [Value.ownBlock] at hb, hkp, Nat.le_refl _⟩ ?_
    clear hap hf hkp
    rintro gs kv w2 ⟨k, cur, cs, hk, rfl, hap, hcs, hcur, hgs, hgl, hkp, hsz⟩
    simp only [Pure.run (p_len sl63.slice), lss_r]
    refine CondP.dec (fun h => ?_) (fun h => ?_)
    · have hk' : k < vs.length := by omega
      obtain ⟨v, hv⟩ : ∃ v, vs[k]? = some v := ⟨vs[k], by simp [hk']⟩
      obtain ⟨gl, rfl, hc⟩ := hkp.ls.cell1 (g := 0) hv
      have hnv := hn k v hv
      have pL : Pure Tryd.prog (Instr.indexAt 63 (.slice (some ⟨gl, 0, none⟩) vs.length cl) (.int .i64 (k : Int))) (.pointer (some ⟨gl, k, none⟩)) := by
        have := pIdx (b := gl) (c := cl) sl63.slice size30 hk'
        simpa using this
      simp only [JoinP.eq]
      rw [Pure.run pL, ldc one30 hc]
      refine LoopP.of2 (fun g iv w' => ∃ (i : Nat) (cur : List Value) (cs : Nat → Nat), i ≤ 64 ∧ iv = .int .i64 i ∧ Ap 81 6 mkB vs cur cs lo w' ∧ (∀ (j : Nat) (v : Value), vs[j]? = some v → cs j = sLen v + if j < k then 64 else if j = k then i else 0) ∧ (∀ j : Nat, k < j → cur[j]? = vs[j]?)
          ∧ cur[k]? = some g ∧ Own w' 30 1 gs k (cur.take k) ∧ Kp [81, 30] 30 lo (.slice (some ⟨gl, 0, none⟩) vs.length cl) vs w w' ∧ w1.heap.size ≤ w'.heap.size) (fun _ i _ => 64 - (intOf i).toNat)
        ⟨0, cur, cs, by omega, rfl, hap, fun j v hv => by rw [hcs j v hv]; split <;> simp, fun j hj => hcur j (by omega), by rw [hcur k (Nat.le_refl _)]; exact hv, hgs, hkp, hsz⟩ ?_
      clear hap hcs hcur hgs hkp hsz cur cs hc
      rintro g iv w3 ⟨i, cur, cs, hi, rfl, hap, hcs, hcur, hg, hgs, hkp, hsz⟩
      simp only [lss_r]
      have hck : cs k = sLen v + i := by rw [hcs k v hv]; simp
      refine CondP.dec (fun h => ?_) (fun h => ?_)
      · have hi' : i < 64 := by omega
        obtain ⟨gl', e1, hc⟩ := hkp.ls.cell1 (g := 0) hv
        injection e1 with e1; injection e1 with e1; subst e1
        have hrd := (hap.rd k v hv).1
        have hog := hap.own k g hg
        obtain ⟨p, c, hvp, _⟩ := hrd
        simp only [JoinP.eq]
        rw [Pure.run pL, ldc one30 hc]
        have hlen : ∀ K : Value → World → Prop, Run Tryd.prog (Builtin.len_ #[30] 3 #[v]) w3 K = K (.int .i64 (sLen v : Nat)) w3 := fun K => by
          conv => lhs; rw [hvp]
          rw [Pure.run (p_len sl30.slice)]
        rw [hlen, add_r]
        rw [wrap64_id (by omega) (by omega), show ((sLen v : Nat) : Int) + (i : Int) = ((sLen v + i : Nat) : Int) by omega]
        rw [show ((k : Nat) : Int) = (k : Int) from rfl]
        refine GoN.does pl66 (markText k ((sLen v + i : Nat) : Int) w3) ?_
        rintro _ w4 ⟨rfl, f4⟩
        rw [Run.eq (bTk _ _)]
        have hap4 := hap.keepT (.ext f4 []) (by simp)
        have hog4 := hog.ext f4
        have hsz4 := f4.size
        refine r_append1 sl30 hog4 rfl (all_one rfl) (by unfold maxLen; omega) (by omega) fun g' w5 hown hgr => ?_
        try simp only [add_r]
        have hap5 := hap4.push hg hgr (by rw [hck]; rw [hck] at hown; exact hown) (by omega)
        refine ⟨⟨i + 1, _, _, by omega, succ64 (by omega), hap5, fun j u hu => ?_, fun j hj => ?_, ?_, ?_, ?_, Nat.le_trans (Nat.le_trans hsz hsz4) hgr.size⟩, ?_⟩
        · by_cases hjk : j = k
          · subst hjk
            rw [hv] at hu; injection hu with hu; subst hu
            simp [hck]; omega
          · simpa [hjk] using hcs j u hu
        · rw [List.getElem?_set_ne (by omega)]; exact hcur j hj
        · rw [List.getElem?_set, if_pos rfl, if_pos (List.getElem?_eq_some_iff.1 hg).1]
        · rw [List.take_set_of_le (Nat.le_refl _)]
          exact (hgs.ext f4).keepT (.grow hgr hog4 [81] (by simp)) (by decide)
        · exact (hkp.ext f4 hlo).grow hgr hog4 (fun b hb => hap.low k g hg b hb) hlo (by simp) (fun b hb => Own.neT (hkp.ls.ext f4) hog4 (by decide) b hb)
        · rw [succ64 (by omega)]; simp [intOf]; omega
      · obtain rfl : i = 64 := by omega
        have hog := hap.own k g hg
        obtain ⟨o1, o2⟩ := hog.one
        refine r_append1 sl63 hgs (by rw [o2]; rfl) (by rw [o2]; simpa using o1) (by unfold maxLen; omega) (by omega) fun gs' w5 hown hgr => ?_
        have hkeep : Keep [30] w3 w5 := .grow hgr hgs _ (by simp)
        simp only [add_r]
        refine ⟨⟨k + 1, cur, cs, by omega, succ64 (by omega), hap.keepT hkeep (by decide), fun j u hu => ?_, fun j hj => hcur j (by omega), ?_, hgr.low hsz hgl, ?_, Nat.le_trans hsz hgr.size⟩, ?_⟩
        · rw [hcs j u hu]
          by_cases hjk : j = k
          · subst hjk; simp
          · by_cases hlt : j < k
            · rw [if_pos hlt, if_pos (by omega)]
            · rw [if_neg hlt, if_neg hjk, if_neg (by omega)]
        · rw [List.take_succ_eq_append_getElem (List.getElem?_eq_some_iff.1 hg).1, (List.getElem?_eq_some_iff.1 hg).2]
          rw [o2] at hown; exact hown
        · exact hkp.grow hgr hgs (fun b hb => Nat.le_trans hlo1 (hgl b hb)) hlo (by simp) (fun b hb hb' => by have := hlsl b hb; have := hgl b hb'; omega)
        · rw [succ64 (by omega)]; simp [intOf]; omega
    · obtain rfl : k = vs.length := by omega
      rw [List.take_of_length_le (by rw [hap.len]; exact Nat.le_refl _)] at hgs
      have hlo2 : lo ≤ w2.heap.size := Nat.le_trans hlo1 hsz
      obtain ⟨pg, cg, rfl, hcg⟩ := hgs.len
      refine LoopP.of2 (fun t2 kv w' => ∃ k : Nat, k ≤ vs.length ∧ kv = .int .i64 k ∧ Ext w2 w') (fun _ i _ => vs.length - (intOf i).toNat) ⟨0, Nat.zero_le _, rfl, Ext.refl _⟩ ?_
      rintro t2 kv w3 ⟨k, hk, rfl, hx⟩
      simp only [Pure.run (p_len sl63.slice), lss_r]
      refine CondP.dec (fun h => ?_) (fun h => ?_)
      · have hk' : k < vs.length := by omega
        obtain ⟨v, hv⟩ : ∃ v, vs[k]? = some v := ⟨vs[k], by simp [hk']⟩
        obtain ⟨g, hg⟩ : ∃ g, cur[k]? = some g := ⟨cur[k]'(by rw [hap.len]; exact hk'), by simp [hap.len, hk']⟩
        have hnv := hn k v hv
        obtain ⟨gl, rfl, hc⟩ := hkp.ls.cell1 (g := 0) hv
        obtain ⟨gg, rfl, hcg⟩ := hgs.cell1 (g := 0) hg
        have pL : Pure Tryd.prog (Instr.indexAt 63 (.slice (some ⟨gl, 0, none⟩) vs.length cl) (.int .i64 (k : Int))) (.pointer (some ⟨gl, k, none⟩)) := by
          have := pIdx (b := gl) (c := cl) sl63.slice size30 hk'
          simpa using this
        have pG : Pure Tryd.prog (Instr.indexAt 63 (.slice (some ⟨gg, 0, none⟩) vs.length cg) (.int .i64 (k : Int))) (.pointer (some ⟨gg, k, none⟩)) := by
          have := pIdx (b := gg) (c := cg) sl63.slice size30 hk'
          simpa using this
        have hck : cs k = sLen v + 64 := by rw [hcs k v hv, if_pos hk']
        have hog := hap.own k g hg
        obtain ⟨hrd, _⟩ := hap.rd k v hv
        generalize hsl : sLen v = n at *
        obtain ⟨p, c, rfl, hrd⟩ := hrd
        rw [hck] at hog
        obtain ⟨b, c', rfl, _, hat⟩ := hog.at (by omega)
        simp only [JoinP.eq]
        refine LoopP.of2 (fun t2 iv w' => ∃ i : Nat, i ≤ n + 64 ∧ iv = .int .i64 i ∧ Ext w2 w') (fun _ i _ => n + 64 - (intOf i).toNat) ⟨0, Nat.zero_le _, rfl, hx⟩ ?_
        clear hx
        rintro t2 iv w4 ⟨i, hi, rfl, hx⟩
        simp only [Pure.run pG, ldc one30 (cell_ext hcg hx), Pure.run (p_len sl30.slice), lss_r]
        refine CondP.dec (fun h => ?_) (fun h => ?_)
        · have hi' : i < n + 64 := by omega
          simp only [JoinP.eq]
          refine GoN.does pl66 (markText k i w4) ?_
          rintro _ w5 ⟨rfl, f5⟩
          have hx := hx.trans f5
          have hgc : w5.cell? ⟨b, i * 6 + 4, none⟩ = some (.string (markT k i)) := by
            have := hat (i * 6 + 4) _ (marks_get (mk := mkB) (sz := 6) (fun _ _ => rfl) (k := k) hi' (j := 4) rfl)
            have := cell_ext this hx
            simpa using this
          have pI : Pure Tryd.prog (Instr.indexAt 30 (.slice (some ⟨b, 0, none⟩) (n + 64) c') (.int .i64 (i : Int))) (.pointer (some ⟨b, i * 6, none⟩)) := pIdx (b := b) (c := c') sl30.slice size81 hi'
          simp only [Pure.run pG, ldc one30 (cell_ext hcg hx), Pure.run pI, Pure.run (p_field fld81_3), ldc one9 hgc]
          simp only [nes_r, Pure.run pL, ldc one30 (cell_ext hc hx), Pure.run (p_len sl30.slice), decide_true, JoinP.eq, PickP.eq, GuardP.yes, GuardP.undef, GuardP.no (show (true == false) = false from rfl), GuardP.no (show (false == true) = false from rfl), CondP.tt, CondP.ff, add_r, sub_r, mul_r, lss_r, leq_r, gtr_r, geq_r, eql_r, neq_r, eqs_r, nes_r, not_r, nil_r, Bool.not_true, Bool.not_false, if_true, if_false, Bool.false_eq_true, decide_true, decide_false, Nat.zero_add, Bool.and_true, Bool.true_and]
          have fin : ∀ w', Ext w2 w' → (∃ i_1 : Nat, i_1 ≤ n + 64 ∧ Value.int .i64 (IntKind.i64.wrap ((i : Int) + 1)) = .int .i64 (i_1 : Nat) ∧ Ext w2 w') ∧
              n + 64 - (intOf (Value.int .i64 (IntKind.i64.wrap ((i : Int) + 1)))).toNat < n + 64 - (intOf (.int .i64 (i : Int))).toNat := by
            intro w' hw'
            refine ⟨⟨i + 1, by omega, succ64 (by omega), hw'⟩, ?_⟩
            rw [succ64 (by omega)]; simp [intOf]; omega
          by_cases hin : (i : Int) < (n : Int)
          · obtain ⟨b2, ys, rfl, hb2⟩ := hrd (by omega)
            have hvc : w5.cell? ⟨b2, i * 6 + 4, none⟩ = some (.string (markT k i)) := by
              have h1 := marks_get (mk := mkB) (sz := 6) (fun _ _ => rfl) (k := k) (n := n) (i := i) (by omega) (j := 4) (u := .string (markT k i)) rfl
              refine cell_ext (hb2.get ?_) hx
              rw [List.getElem?_append_left (List.getElem?_eq_some_iff.1 h1).1]; exact h1
            have pV : Pure Tryd.prog (Instr.indexAt 30 (.slice (some ⟨b2, 0, none⟩) n c) (.int .i64 (i : Int))) (.pointer (some ⟨b2, i * 6, none⟩)) := pIdx (b := b2) (c := c) (n := n) (k := i) sl30.slice size81 (by omega)
            simp only [hin, decide_true, Pure.run pL, ldc one30 (cell_ext hc hx), Pure.run pV, Pure.run (p_field fld81_3), ldc one9 hvc, nes_r, JoinP.eq, PickP.eq, GuardP.yes, GuardP.undef, GuardP.no (show (true == false) = false from rfl), GuardP.no (show (false == true) = false from rfl), CondP.tt, CondP.ff, add_r, sub_r, mul_r, lss_r, leq_r, gtr_r, geq_r, eql_r, neq_r, eqs_r, nes_r, not_r, nil_r, Bool.not_true, Bool.not_false, if_true, if_false, Bool.false_eq_true, decide_true, decide_false, Nat.zero_add, Bool.and_true, Bool.true_and]
            exact fin w5 hx
          · simp only [hin, decide_false, JoinP.eq, PickP.eq, GuardP.yes, GuardP.undef, GuardP.no (show (true == false) = false from rfl), GuardP.no (show (false == true) = false from rfl), CondP.tt, CondP.ff, add_r, sub_r, mul_r, lss_r, leq_r, gtr_r, geq_r, eql_r, neq_r, eqs_r, nes_r, not_r, nil_r, Bool.not_true, Bool.not_false, if_true, if_false, Bool.false_eq_true, decide_true, decide_false, Nat.zero_add, Bool.and_true, Bool.true_and]
            exact fin w5 hx
        · simp only [add_r]
          refine ⟨⟨k + 1, by omega, succ64 (by omega), hx⟩, ?_⟩
          rw [succ64 (by omega)]; simp [intOf]; omega
      · have := hkp.ext hx hlo
        exact ⟨rfl, this.below, this.keep⟩
end Go.Proofs.YtmgleeoecdodjaaDoor.Sh
