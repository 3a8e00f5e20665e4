/- That lists of rows, each in a row of its own, are found apart. Conditions: lengths up to 2^30. -/
import Derived.Test.YtmgleeoecdodjaaDoorTj
set_option linter.unusedVariables false
set_option linter.unusedSimpArgs false
set_option maxRecDepth 10000
namespace Go.V
open Go.RowKit
variable {P : Program}
theorem ldAQ {w : World} {b o n : Nat} {t : TypeId} {l : List Value} (ht : aggB P t n = true) (hl : l.length = n) (h : At w b o l) {K : Value → Prop} : RunQ P (Instr.loadAt t (.pointer (some ⟨b, o, none⟩))) w K = K (.agg l.toArray) := by
  refine propext ⟨?_, fun k => q_loadN ht hl h k⟩
  rintro ⟨u, h', k⟩
  have := (h' w (Ext.refl _)).symm.trans (run_loadN ht hl h)
  injection this with h1 h2
  subst h1
  exact k
end Go.V
namespace Go.Proofs.YtmgleeoecdodjaaDoor.Sh
open Go Go.V Go.RowKit

def rowM (k i : Int) : List Value := [.int .i64 (-7), .string (markT k i)]
def mkR (k i : Nat) : List Value := rowM k i
theorem bRow (a : Int) (b : ByteArray) (w : World) : (Instr.build 133 #[(0, .int .i64 a), (1, .string b)]).run Tryd.prog w = .ok (.agg #[.int .i64 a, .string b]) w := by kernel_rfl
theorem markRows (k i : Int) (w : World) : Does Tryd.prog 62 [.int .i64 k, .int .i64 i] w fun v w' => v = .agg (rowM k i).toArray ∧ Ext w w' := by
  refine D62 ?_
  unfold S62
  refine r_alloc zero133 fun w1 e1 z1 b1 => ?_
  refine GoN.does pl66 (markText k i w1) ?_
  rintro _ w2 ⟨rfl, e2⟩
  rw [Run.eq (bRow (-7) (markT k i) w2)]
  refine r_store size133 (l := rowM k i) rfl rfl (all_one rfl) (b1.ext e2) (by decide) fun w3 c3 b3 => ?_
  exact k_loadN agg133 (l := rowM k i) rfl b3.at ⟨rfl, (e1.trans e2).chg c3 (by omega)⟩
theorem apartRows {w : World} {ls : Value} {vs : List Value} {lo hi : Nat} (hls : Own w 79 1 ls vs.length vs) (hown : ∀ (j : Nat) (v : Value), vs[j]? = some v → ∃ n xs, Own w 133 2 v n xs) (hinc : Dis lo vs hi) (hlo : lo ≤ w.heap.size)
    (hb : vs.length ≤ 1073741824) (hn : ∀ (j : Nat) (v : Value), vs[j]? = some v → sLen v ≤ 1073741824) :
    Does Tryd.prog 36 [ls] w (Aparted [133, 79] lo w) := by
  obtain ⟨pl, cl, rfl, hcl⟩ := hls.len
  refine D36 ?_
  unfold S36
  simp only [JoinP.eq]
  refine LoopP.of1 (fun kv w' => ∃ k : Nat, k ≤ vs.length ∧ kv = .int .i64 k ∧ Fill 133 2 mkR vs k 0 w' ∧ Kp [133, 79] 79 lo (.slice pl vs.length cl) vs w w') (fun i _ => vs.length - (intOf i).toNat)
    ⟨0, Nat.zero_le _, rfl, .start hown, Below.refl _ _, Keep.refl _ _, hls⟩ ?_
  rintro kv w1 ⟨k, hk, rfl, hf, hkp⟩
  simp only [Pure.run (p_len sl56.slice), lss_r]
  refine CondP.dec (fun h => ?_) (fun h => ?_)
  · have hk' : k < vs.length := by omega
    obtain ⟨v, hv⟩ : ∃ v, vs[k]? = some v := ⟨vs[k], by simp [hk']⟩
    obtain ⟨gl, rfl, _⟩ := hkp.ls.cell1 (g := 0) hv
    have pL : Pure Tryd.prog (Instr.indexAt 56 (.slice (some ⟨gl, 0, none⟩) vs.length cl) (.int .i64 (k : Int))) (.pointer (some ⟨gl, k, none⟩)) := by
      have := pIdx (b := gl) (c := cl) sl56.slice size79 hk'
      simpa using this
    simp only [JoinP.eq]
    refine LoopP.of1 (fun iv w' => ∃ i : Nat, i ≤ sLen v ∧ iv = .int .i64 i ∧ Fill 133 2 mkR vs k i w' ∧ Kp [133, 79] 79 lo (.slice (some ⟨gl, 0, none⟩) vs.length cl) vs w w') (fun i _ => sLen v - (intOf i).toNat)
      ⟨0, Nat.zero_le _, rfl, hf, hkp⟩ ?_
    clear hf hkp
    rintro iv w2 ⟨i, hi, rfl, hf, hkp⟩
    have hnv := hn k v hv
    obtain ⟨gl', e1, hc⟩ := hkp.ls.cell1 (g := 0) hv
    injection e1 with e1; injection e1 with e1; subst e1
    obtain ⟨xs, ho, _, htk⟩ := hf.h k v hv
    generalize hsl : sLen v = n at *
    obtain ⟨p, c, rfl, hpc⟩ := ho.len
    simp only [Pure.run pL, ldc one79 hc, Pure.run (p_len sl79.slice), lss_r]
    refine CondP.dec (fun h => ?_) (fun h => ?_)
    · have hi' : i < n := by omega
      obtain ⟨g, c', e2, _, _⟩ := ho.at (by omega)
      injection e2 with e2 e3 e4
      subst e2; subst e4
      simp only [JoinP.eq]
      intro w3 f3
      simp only [Pure.runQ pL, ldcQ one79 (cell_ext hc f3)]
      refine GoN.does pl62 (markRows k i w3) ?_
      rintro _ w4 ⟨rfl, f4⟩
      refine ⟨f4, ?_⟩
      have f24 := f3.trans f4
      have ho4 := ho.ext f24
      rw [Pure.runQ (pIdx sl79.slice size133 hi')]
      refine r_storeOwn (l := mkR k i) size133 rfl rfl (all_one rfl) ho4 (by have := ho.1; omega) fun w5 c5 ho5 => ?_
      simp only [add_r]
      refine ⟨⟨i + 1, by omega, succ64 (by omega), ?_, ?_⟩, ?_⟩
      · exact (hf.ext f24).store (fun _ _ => rfl) hinc hv hi' (htk rfl) (by have := ho.1; omega) c5 ho5
      · exact (hkp.ext f24 hlo).chg c5 ho4 rfl ((hinc.get hv g rfl).1) (by simp) (by decide)
      · rw [succ64 (by omega)]; simp [intOf]; omega
    · obtain rfl : i = n := by omega
      simp only [add_r]
      refine ⟨⟨k + 1, by omega, succ64 (by omega), ?_, hkp⟩, ?_⟩
      · have := Fill.next (v := .slice p i c) (by simpa [sLen] using hf) hv
        exact this
      · rw [succ64 (by omega)]; simp [intOf]; omega
  · obtain rfl : k = vs.length := by omega
    have hap := hf.ap hinc
    have hlo1 : lo ≤ w1.heap.size := Nat.le_trans hlo hkp.below.size
    have hlsl : ∀ b, (Value.slice pl vs.length cl).ownBlock = some b → b < w1.heap.size := fun b hb => hkp.ls.lt hb
    refine LoopP.of2 (fun gs kv w' => ∃ (k : Nat) (cur : List Value) (cs : Nat → Nat), k ≤ vs.length ∧ kv = .int .i64 k ∧ Ap 133 2 mkR vs cur cs lo w' ∧ (∀ (j : Nat) (v : Value), vs[j]? = some v → cs j = sLen v + if j < k then 64 else 0) ∧ (∀ j : Nat, k ≤ j → cur[j]? = vs[j]?)
        ∧ Own w' 79 1 gs k (cur.take k) ∧ (∀ b, gs.ownBlock = some b → w1.heap.size ≤ b) ∧ Kp [133, 79] 79 lo (.slice pl vs.length cl) vs w w' ∧ w1.heap.size ≤ w'.heap.size) (fun _ i _ => vs.length - (intOf i).toNat)
      ⟨0, vs, _, Nat.zero_le _, rfl, hap, fun j v hv => by simp [hv], fun _ _ => rfl, Own.nil _ _ _, fun b hb => by simp [Value.ownBlock] at hb, hkp, Nat.le_refl _⟩ ?_
    clear hap hf hkp
    rintro gs kv w2 ⟨k, cur, cs, hk, rfl, hap, hcs, hcur, hgs, hgl, hkp, hsz⟩
    simp only [Pure.run (p_len sl56.slice), lss_r]
    refine CondP.dec (fun h => ?_) (fun h => ?_)
    · have hk' : k < vs.length := by omega
      obtain ⟨v, hv⟩ : ∃ v, vs[k]? = some v := ⟨vs[k], by simp [hk']⟩
      obtain ⟨gl, rfl, hc⟩ := hkp.ls.cell1 (g := 0) hv
      have hnv := hn k v hv
      have pL : Pure Tryd.prog (Instr.indexAt 56 (.slice (some ⟨gl, 0, none⟩) vs.length cl) (.int .i64 (k : Int))) (.pointer (some ⟨gl, k, none⟩)) := by
        have := pIdx (b := gl) (c := cl) sl56.slice size79 hk'
        simpa using this
      simp only [JoinP.eq]
      rw [Pure.run pL, ldc one79 hc]
      refine LoopP.of2 (fun g iv w' => ∃ (i : Nat) (cur : List Value) (cs : Nat → Nat), i ≤ 64 ∧ iv = .int .i64 i ∧ Ap 133 2 mkR vs cur cs lo w' ∧ (∀ (j : Nat) (v : Value), vs[j]? = some v → cs j = sLen v + if j < k then 64 else if j = k then i else 0) ∧ (∀ j : Nat, k < j → cur[j]? = vs[j]?)
          ∧ cur[k]? = some g ∧ Own w' 79 1 gs k (cur.take k) ∧ Kp [133, 79] 79 lo (.slice (some ⟨gl, 0, none⟩) vs.length cl) vs w w' ∧ w1.heap.size ≤ w'.heap.size) (fun _ i _ => 64 - (intOf i).toNat)
        ⟨0, cur, cs, by omega, rfl, hap, fun j v hv => by rw [hcs j v hv]; split <;> simp, fun j hj => hcur j (by omega), by rw [hcur k (Nat.le_refl _)]; exact hv, hgs, hkp, hsz⟩ ?_
      clear hap hcs hcur hgs hkp hsz cur cs hc
      rintro g iv w3 ⟨i, cur, cs, hi, rfl, hap, hcs, hcur, hg, hgs, hkp, hsz⟩
      simp only [lss_r]
      have hck : cs k = sLen v + i := by rw [hcs k v hv]; simp
      refine CondP.dec (fun h => ?_) (fun h => ?_)
      · have hi' : i < 64 := by omega
        obtain ⟨gl', e1, hc⟩ := hkp.ls.cell1 (g := 0) hv
        injection e1 with e1; injection e1 with e1; subst e1
        have hrd := (hap.rd k v hv).1
        have hog := hap.own k g hg
        obtain ⟨p, c, hvp, _⟩ := hrd
        simp only [JoinP.eq]
        rw [Pure.run pL, ldc one79 hc]
        have hlen : ∀ K : Value → World → Prop, Run Tryd.prog (Builtin.len_ #[79] 3 #[v]) w3 K = K (.int .i64 (sLen v : Nat)) w3 := fun K => by
          conv => lhs; rw [hvp]
          rw [Pure.run (p_len sl79.slice)]
        rw [hlen, add_r]
        rw [wrap64_id (by omega) (by omega), show ((sLen v : Nat) : Int) + (i : Int) = ((sLen v + i : Nat) : Int) by omega]
        refine GoN.does pl62 (markRows k (sLen v + i : Nat) w3) ?_
        rintro _ w4 ⟨rfl, f4⟩
        have hap4 := hap.keepT (.ext f4 []) (by simp)
        have hog4 := hog.ext f4
        have hsz4 := f4.size
        refine r_append1 sl79 hog4 rfl (all_one rfl) (by unfold maxLen; omega) (by omega) fun g' w5 hown hgr => ?_
        simp only [add_r]
        have hap5 := hap4.push hg hgr (by rw [hck]; rw [hck] at hown; exact hown) (by omega)
        refine ⟨⟨i + 1, _, _, by omega, succ64 (by omega), hap5, fun j u hu => ?_, fun j hj => ?_, ?_, ?_, ?_, Nat.le_trans (Nat.le_trans hsz hsz4) hgr.size⟩, ?_⟩
        · by_cases hjk : j = k
          · subst hjk
            rw [hv] at hu; injection hu with hu; subst hu
            simp [hck]; omega
          · simpa [hjk] using hcs j u hu
        · rw [List.getElem?_set_ne (by omega)]; exact hcur j hj
        · rw [List.getElem?_set, if_pos rfl, if_pos (List.getElem?_eq_some_iff.1 hg).1]
        · rw [List.take_set_of_le (Nat.le_refl _)]
          exact (hgs.ext f4).keepT (.grow hgr hog4 [133] (by simp)) (by decide)
        · exact (hkp.ext f4 hlo).grow hgr hog4 (fun b hb => hap.low k g hg b hb) hlo (by simp) (fun b hb => Own.neT (hkp.ls.ext f4) hog4 (by decide) b hb)
        · rw [succ64 (by omega)]; simp [intOf]; omega
      · obtain rfl : i = 64 := by omega
        have hog := hap.own k g hg
        obtain ⟨o1, o2⟩ := hog.one
        refine r_append1 sl56 hgs (by rw [o2]; rfl) (by rw [o2]; simpa using o1) (by unfold maxLen; omega) (by omega) fun gs' w5 hown hgr => ?_
        have hkeep : Keep [79] w3 w5 := .grow hgr hgs _ (by simp)
        simp only [add_r]
        refine ⟨⟨k + 1, cur, cs, by omega, succ64 (by omega), hap.keepT hkeep (by decide), fun j u hu => ?_, fun j hj => hcur j (by omega), ?_, hgr.low hsz hgl, ?_, Nat.le_trans hsz hgr.size⟩, ?_⟩
        · rw [hcs j u hu]
          by_cases hjk : j = k
          · subst hjk; simp
          · by_cases hlt : j < k
            · rw [if_pos hlt, if_pos (by omega)]
            · rw [if_neg hlt, if_neg hjk, if_neg (by omega)]
        · rw [List.take_succ_eq_append_getElem (List.getElem?_eq_some_iff.1 hg).1, (List.getElem?_eq_some_iff.1 hg).2]
          rw [o2] at hown; exact hown
        · exact hkp.grow hgr hgs (fun b hb => Nat.le_trans hlo1 (hgl b hb)) hlo (by simp) (fun b hb hb' => by have := hlsl b hb; have := hgl b hb'; omega)
        · rw [succ64 (by omega)]; simp [intOf]; omega
    · obtain rfl : k = vs.length := by omega
      rw [List.take_of_length_le (by rw [hap.len]; exact Nat.le_refl _)] at hgs
      have hlo2 : lo ≤ w2.heap.size := Nat.le_trans hlo1 hsz
      obtain ⟨pg, cg, rfl, hcg⟩ := hgs.len
      refine LoopP.of2 (fun t2 kv w' => ∃ k : Nat, k ≤ vs.length ∧ kv = .int .i64 k ∧ Ext w2 w') (fun _ i _ => vs.length - (intOf i).toNat) ⟨0, Nat.zero_le _, rfl, Ext.refl _⟩ ?_
      rintro t2 kv w3 ⟨k, hk, rfl, hx⟩
      simp only [Pure.run (p_len sl56.slice), lss_r]
      refine CondP.dec (fun h => ?_) (fun h => ?_)
      · have hk' : k < vs.length := by omega
        obtain ⟨v, hv⟩ : ∃ v, vs[k]? = some v := ⟨vs[k], by simp [hk']⟩
        obtain ⟨g, hg⟩ : ∃ g, cur[k]? = some g := ⟨cur[k]'(by rw [hap.len]; exact hk'), by simp [hap.len, hk']⟩
        have hnv := hn k v hv
        obtain ⟨gl, rfl, hc⟩ := hkp.ls.cell1 (g := 0) hv
        obtain ⟨gg, rfl, hcg⟩ := hgs.cell1 (g := 0) hg
        have pL : Pure Tryd.prog (Instr.indexAt 56 (.slice (some ⟨gl, 0, none⟩) vs.length cl) (.int .i64 (k : Int))) (.pointer (some ⟨gl, k, none⟩)) := by
          have := pIdx (b := gl) (c := cl) sl56.slice size79 hk'
          simpa using this
        have pG : Pure Tryd.prog (Instr.indexAt 56 (.slice (some ⟨gg, 0, none⟩) vs.length cg) (.int .i64 (k : Int))) (.pointer (some ⟨gg, k, none⟩)) := by
          have := pIdx (b := gg) (c := cg) sl56.slice size79 hk'
          simpa using this
        have hck : cs k = sLen v + 64 := by rw [hcs k v hv, if_pos hk']
        have hog := hap.own k g hg
        obtain ⟨hrd, _⟩ := hap.rd k v hv
        generalize hsl : sLen v = n at *
        obtain ⟨p, c, rfl, hrd⟩ := hrd
        rw [hck] at hog
        obtain ⟨b, c', rfl, _, hat⟩ := hog.at (by omega)
        simp only [JoinP.eq]
        refine LoopP.of2 (fun t2 iv w' => ∃ i : Nat, i ≤ n + 64 ∧ iv = .int .i64 i ∧ Ext w2 w') (fun _ i _ => n + 64 - (intOf i).toNat) ⟨0, Nat.zero_le _, rfl, hx⟩ ?_
        clear hx
        rintro t2 iv w4 ⟨i, hi, rfl, hx⟩
        simp only [Pure.run pG, ldc one79 (cell_ext hcg hx), Pure.run (p_len sl79.slice), lss_r]
        refine CondP.dec (fun h => ?_) (fun h => ?_)
        · have hi' : i < n + 64 := by omega
          simp only [JoinP.eq]
          refine GoN.does pl62 (markRows k i w4) ?_
          rintro _ w5 ⟨rfl, f5⟩
          have hx5 := hx.trans f5
          refine r_alloc zero133 fun w6 f6 z6 b6 => ?_
          refine r_store size133 (l := mkR k i) rfl rfl (all_one rfl) b6 (by decide) fun w7 c7 b7 => ?_
          have b7 : Blk w7 w5.heap.size (mkR k i) 133 := b7
          have hx7 : Ext w2 w7 := hx5.trans (f6.chg c7 (Nat.le_refl _))
          intro w8 f8
          have hx8 := hx7.trans f8
          have b8 := b7.ext f8
          have hgc : At w8 b (i * 2) (mkR k i) := fun q u hq => by
            have := hat (i * 2 + q) u (marks_get (mk := mkR) (sz := 2) (fun _ _ => rfl) (k := k) hi' hq)
            have := cell_ext this hx8
            simpa using this
          have pI : Pure Tryd.prog (Instr.indexAt 79 (.slice (some ⟨b, 0, none⟩) (n + 64) c') (.int .i64 (i : Int))) (.pointer (some ⟨b, i * 2, none⟩)) := pIdx (b := b) (c := c') sl79.slice size133 hi'
          have hnes : Pure Tryd.prog (binSem .neq 133 (.tmp 90) (.tmp 91) (.agg (mkR k i).toArray) (.agg (mkR k i).toArray)) (.bool false) := by
            have := nes133 (x := .tmp 90) (y := .tmp 91) (a0 := -7) (b0 := -7) (a1 := markT k i) (b1 := markT k i)
            simpa [mkR, rowM] using this
          have hnes' : Pure Tryd.prog (binSem .neq 133 (.tmp 108) (.tmp 109) (.agg (mkR k i).toArray) (.agg (mkR k i).toArray)) (.bool false) := by
            have := nes133 (x := .tmp 108) (y := .tmp 109) (a0 := -7) (b0 := -7) (a1 := markT k i) (b1 := markT k i)
            simpa [mkR, rowM] using this
          have hw : ∀ K : Value → Prop, RunQ Tryd.prog (Instr.loadAt 133 (.pointer (some ⟨w5.heap.size, 0, none⟩))) w8 K = K (.agg (mkR k i).toArray) := fun K => ldNQ b8 agg133 (o := 0) rfl
          simp only [Pure.runQ pG, ldcQ one79 (cell_ext hcg hx8), Pure.runQ pI, ldAQ agg133 rfl hgc, hw, Pure.runQ hnes, Pure.runQ pL, ldcQ one79 (cell_ext hc hx8), Pure.runQ (p_len sl79.slice), PickQ.eq, GuardQ.yes, GuardQ.undef, GuardQ.no (show (true == false) = false from rfl), GuardQ.no (show (false == true) = false from rfl), eql_q, neq_q, lss_q, add_q, sub_q, eqs_q, nes_q, not_q, JoinP.eq, PickP.eq, GuardP.yes, GuardP.undef, GuardP.no (show (true == false) = false from rfl), GuardP.no (show (false == true) = false from rfl), CondP.tt, CondP.ff, add_r, sub_r, mul_r, lss_r, leq_r, gtr_r, geq_r, eql_r, neq_r, eqs_r, nes_r, not_r, nil_r, Bool.not_true, Bool.not_false, if_true, if_false, Bool.false_eq_true, decide_true, decide_false, Nat.zero_add, Bool.and_true, Bool.true_and]
          have fin : ∀ w', Ext w2 w' → (∃ i_1 : Nat, i_1 ≤ n + 64 ∧ Value.int .i64 (IntKind.i64.wrap ((i : Int) + 1)) = .int .i64 (i_1 : Nat) ∧ Ext w2 w') ∧
              n + 64 - (intOf (Value.int .i64 (IntKind.i64.wrap ((i : Int) + 1)))).toNat < n + 64 - (intOf (.int .i64 (i : Int))).toNat := by
            intro w' hw'
            refine ⟨⟨i + 1, by omega, succ64 (by omega), hw'⟩, ?_⟩
            rw [succ64 (by omega)]; simp [intOf]; omega
          by_cases hin : (i : Int) < (n : Int)
          · obtain ⟨b2, ys, rfl, hb2⟩ := hrd (by omega)
            have hvc : At w8 b2 (i * 2) (mkR k i) := fun q u hq => by
              have h1 := marks_get (mk := mkR) (sz := 2) (fun _ _ => rfl) (k := k) (n := n) (i := i) (by omega) hq
              refine cell_ext (hb2.get ?_) hx8
              rw [List.getElem?_append_left (List.getElem?_eq_some_iff.1 h1).1]; exact h1
            have pV : Pure Tryd.prog (Instr.indexAt 79 (.slice (some ⟨b2, 0, none⟩) n c) (.int .i64 (i : Int))) (.pointer (some ⟨b2, i * 2, none⟩)) := pIdx (b := b2) (c := c) (n := n) (k := i) sl79.slice size133 (by omega)
            simp only [hin, decide_true, Pure.runQ pL, ldcQ one79 (cell_ext hc hx8), Pure.runQ pV, ldAQ agg133 rfl hvc, hw, Pure.runQ hnes', PickQ.eq, GuardQ.yes, GuardQ.undef, GuardQ.no (show (true == false) = false from rfl), GuardQ.no (show (false == true) = false from rfl), eql_q, neq_q, lss_q, add_q, sub_q, eqs_q, nes_q, not_q, JoinP.eq, PickP.eq, GuardP.yes, GuardP.undef, GuardP.no (show (true == false) = false from rfl), GuardP.no (show (false == true) = false from rfl), CondP.tt, CondP.ff, add_r, sub_r, mul_r, lss_r, leq_r, gtr_r, geq_r, eql_r, neq_r, eqs_r, nes_r, not_r, nil_r, Bool.not_true, Bool.not_false, if_true, if_false, Bool.false_eq_true, decide_true, decide_false, Nat.zero_add, Bool.and_true, Bool.true_and]
            exact fin w8 hx8
          · simp only [hin, decide_false, PickQ.eq, GuardQ.yes, GuardQ.undef, GuardQ.no (show (true == false) = false from rfl), GuardQ.no (show (false == true) = false from rfl), eql_q, neq_q, lss_q, add_q, sub_q, eqs_q, nes_q, not_q, JoinP.eq, PickP.eq, GuardP.yes, GuardP.undef, GuardP.no (show (true == false) = false from rfl), GuardP.no (show (false == true) = false from rfl), CondP.tt, CondP.ff, add_r, sub_r, mul_r, lss_r, leq_r, gtr_r, geq_r, eql_r, neq_r, eqs_r, nes_r, not_r, nil_r, Bool.not_true, Bool.not_false, if_true, if_false, Bool.false_eq_true, decide_true, decide_false, Nat.zero_add, Bool.and_true, Bool.true_and]
            exact fin w8 hx8
        · simp only [add_r]
          refine ⟨⟨k + 1, by omega, succ64 (by omega), hx⟩, ?_⟩
          rw [succ64 (by omega)]; simp [intOf]; omega
      · have := hkp.ext hx hlo
        exact ⟨rfl, this.below, this.keep⟩
end Go.Proofs.YtmgleeoecdodjaaDoor.Sh
