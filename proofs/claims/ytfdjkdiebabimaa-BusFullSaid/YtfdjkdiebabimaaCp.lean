/- Counts, what waits, and a choice out of a number. Conditions: lengths up to 2^30. -/
import Derived.Test.YtfdjkdiebabimaaCk
set_option linter.unusedVariables false
set_option linter.unusedSimpArgs false
set_option maxRecDepth 100000
namespace Go.Proofs.Ytfdjkdiebabimaa.Sh
open Go Go.V Go.RowKit Go.Extern Go.Proofs.Ytfdjkdiebabimaa.Bp

def cntC (s : PS) : List Value := [.int .i64 s.sent, .int .i64 s.taken, .int .i64 s.refused, .int .i64 s.damaged, .int .i64 s.dropped]
abbrev cntA (s : PS) : Value := .agg (cntC s).toArray
def cnt0 : PS := ⟨[], [], [], 0, 0, 0, 0, 0⟩
theorem bCnt0 : Pure Try.prog (Instr.build 64 #[]) (cntA cnt0) := fun w => by kernel_rfl
theorem cnt_one (s : PS) : ∀ u ∈ cntC s, u.oneCell' = true := all_one rfl
structure CountsR (ss : List PS) (n : Int) (w : World) (r : Value) (w' : World) : Prop where
  ext : Ext w w'
  no : there? n ss = false → r = .tuple #[cntA cnt0, errno 1]
  ok : ∀ s, there? n ss = true → ss[n.toNat]? = some s → r = .tuple #[cntA s, .nilIface]
theorem countsB {w : World} {b N : Nat} {gs : List SG} {ss : List PS} {lt : List DLate} {n : Int} (h : BusAt w b N gs ss lt) :
    Does Try.prog 23 [ptr b, .int .i64 n] w (CountsR ss n w) := by
  refine D23 ?_
  unfold S23
  refine r_alloc zero64 fun w1 e1 z1 b1 => ?_
  refine GoN.does pl27 (there (h.ext e1)) ?_
  rintro _ w2 ⟨rfl, rfl⟩
  rw [not_r, show decide (0 ≤ n ∧ n < (ss.length : Int)) = there? n ss from rfl]
  cases ht : there? n ss with
  | false =>
    rw [Bool.not_false, CondP.tt, Pure.run bCnt0, Pure.run (i_err _)]
    refine r_store size64 (l := cntC cnt0) rfl rfl (cnt_one _) b1 (show 0 + 5 ≤ 5 by decide) fun w3 c3 b3 => ?_
    exact k_loadN agg64 (l := cntC cnt0) rfl b3.at ⟨e1.chg c3 (Nat.le_refl _), fun _ => rfl, fun s h' => (by rw [ht] at h'; cases h')⟩
  | true =>
    obtain ⟨hn0, hnl⟩ := there_get ht
    rw [Bool.not_true, CondP.ff]
    show Run _ _ _ _
    obtain ⟨a, ha, hst⟩ := h.get hnl
    obtain ⟨rv, hbs, hrr, hrl⟩ := hst.h
    obtain ⟨sv, lv, hb, hsv, hl⟩ := h.blk
    rw [nil_r, Pure.run (p_field (o := 0) fld74_0), ld1 (hb.ext e1) one71 (o := 0 + 0) rfl]
    refine r_st (hsv.ext e1) ha (by omega) ?_
    rw [nil_r, Pure.run (p_field (o := 0) fld81_3), ldN (hbs.ext e1) agg64 (o := 0 + 3) rfl]
    refine r_store size64 (l := cntC ss[n.toNat]) rfl rfl (cnt_one _) b1 (show 0 + 5 ≤ 5 by decide) fun w3 c3 b3 => ?_
    refine k_loadN agg64 (l := cntC ss[n.toNat]) rfl b3.at ⟨e1.chg c3 (Nat.le_refl _), fun h' => (by rw [ht] at h'; cases h'), fun s _ hs => ?_⟩
    rw [List.getElem?_eq_getElem hnl] at hs
    injection hs with hs; subst hs; rfl
def waitTo (ss : List PS) : Nat → Nat
  | 0 => 0
  | k + 1 => match ss[k]? with
    | some s => waitTo ss k + s.out.length
    | none => waitTo ss k
theorem waitTo_le {ss : List PS} (h : ∀ s ∈ ss, s.out.length ≤ 64) : ∀ k, waitTo ss k ≤ 64 * k
  | 0 => by simp [waitTo]
  | k + 1 => by
    have ih := waitTo_le h k
    unfold waitTo
    split
    · rename_i s hs
      have := h s (List.mem_of_getElem? hs)
      omega
    · omega
theorem waiting {w : World} {b N : Nat} {gs : List SG} {ss : List PS} {lt : List DLate} (h : BusAt w b N gs ss lt) (h64 : N ≤ 64) (hl : ss.length ≤ 1073741824) :
    Does Try.prog 22 [ptr b] w fun r w' => Ext w w' ∧ r = .tuple #[.int .i64 (waitTo ss ss.length : Int), .int .i64 (lt.length : Int)] := by
  obtain ⟨sv, lv, hb, hsv, hla⟩ := h.blk
  have hlen := h.len
  have hall : ∀ s ∈ ss, s.out.length ≤ 64 := by
    intro s hs
    obtain ⟨i, hi⟩ := List.mem_iff_getElem?.1 hs
    have hil := (List.getElem?_eq_some_iff.1 hi).1
    obtain ⟨a, ha, hst⟩ := h.get hil
    have := hst.o.len
    rw [(List.getElem?_eq_some_iff.1 hi).2] at this
    omega
  refine D22 ?_
  unfold S22
  rw [nil_r, Pure.run (p_field (o := 0) fld74_0), ld1 hb one71 (o := 0 + 0) rfl]
  obtain ⟨ps, cs, hsve, _⟩ := hsv.len
  have hln : Run Try.prog (Builtin.len_ #[71] 3 #[sv]) w = fun K => K (.int .i64 (gs.length : Int)) w := by
    funext K; rw [hsve]; exact Pure.run (p_len sl71.slice)
  rw [hln]
  simp only [JoinP.eq]
  refine LoopP.of2 (fun v i w' => ∃ k : Nat, k ≤ ss.length ∧ i = .int .i64 k ∧ v = .int .i64 (waitTo ss k : Int) ∧ Ext w w') (fun _ i _ => ss.length - (intOf i).toNat) ⟨0, Nat.zero_le _, rfl, rfl, Ext.refl _⟩ ?_
  rintro _ _ w1 ⟨k, hk, rfl, rfl, e1⟩
  simp only [lss_r, hlen]
  have hb1 := hb.ext e1
  have hsv1 := hsv.ext e1
  refine CondP.dec (fun hlt => ?_) (fun hlt => ?_)
  · have hk' : k < ss.length := by omega
    obtain ⟨a, ha, hst⟩ := (h.ext e1).get hk'
    obtain ⟨rv, hbs, _⟩ := hst.h
    try simp only [JoinP.eq]
    refine r_st hsv1 ha rfl ?_
    rw [nil_r, Pure.run (p_field (o := 0) fld81_0), ld1 hbs one75 (o := 0 + 0) rfl]
    refine GoN.does pl39 (qlen hst.o) ?_
    rintro _ w2 ⟨rfl, rfl⟩
    have hw1 := waitTo_le hall k
    have hw2 := hall ss[k] (by simp)
    have hstep : waitTo ss (k + 1) = waitTo ss k + ss[k].out.length := by rw [waitTo, List.getElem?_eq_getElem hk']
    rw [add_r, wrap64_id (by omega) (by omega)]
    try simp only [add_r]
    refine ⟨⟨k + 1, by omega, succ64 (by omega), by rw [hstep]; congr 1, e1⟩, ?_⟩
    rw [succ64 (by omega)]; simp [intOf]; omega
  · have hk' : k = ss.length := by omega
    subst hk'
    intro w2 e2
    have e02 := e1.trans e2
    obtain ⟨es, hes, hlo, _⟩ := hla.h
    obtain ⟨pl, cl, rfl, _⟩ := hlo.len
    rw [Pure.runQ p_nil, Pure.runQ (p_field (o := 0) fld74_1), ld1Q (hb.ext e02) one72 (o := 0 + 1) rfl, Pure.runQ (p_len sl72.slice)]
    exact ⟨e02, rfl⟩
theorem pick {k n : Int} {w : World} (h1 : 1 ≤ n) (hn : n ≤ 1000000) :
    Does Try.prog 16 [.int .i64 k, .int .i64 n] w fun r w' => w' = w ∧ ∃ j : Int, r = .int .i64 j ∧ 0 ≤ j ∧ j < n := by
  refine D16 ?_
  unfold S16
  have hm1 := Int.tmod_lt_of_pos k (show 0 < n by omega)
  have hm2 := Int.lt_tmod_of_pos k (show 0 < n by omega)
  rw [lss_r, decide_eq_false (by omega), CondP.ff]
  show Run _ _ _ _
  rw [Pure.run (p_rem' (by omega)), lss_r]
  refine CondP.dec (fun h => ?_) (fun h => ?_)
  · rw [add_r, wrap64_id (by omega) (by omega)]
    exact ⟨rfl, _, rfl, by omega, by omega⟩
  · exact ⟨rfl, _, rfl, by omega, by omega⟩
end Go.Proofs.Ytfdjkdiebabimaa.Sh
