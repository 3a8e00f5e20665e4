/- What one promise says of one call. Conditions: none. -/
import Derived.Test.YtfdjkdiebabimaaCj
set_option linter.unusedVariables false
set_option linter.unusedSimpArgs false
set_option maxRecDepth 100000
namespace Go.Proofs.Ytfdjkdiebabimaa.Sh
open Go Go.V Go.RowKit Go.Extern Go.Proofs.Ytfdjkdiebabimaa.Bp

def nilS : Value := .slice none 0 0
theorem all_ {n : Int} {w : World} (h0 : 0 ≤ n) (hn : n ≤ 1048576) :
    Does Try.prog 21 [.int .i64 n] w fun r w' => Ext w w' ∧ RuLists (memW w') r (List.replicate n.toNat []) := by
  refine D21 ?_
  unfold S21
  simp only [JoinP.eq]
  refine LoopP.of2 (fun u i w' => ∃ k : Nat, k ≤ n.toNat ∧ i = .int .i64 k ∧ Own w' 57 1 u k (List.replicate k nilS) ∧ Ext w w' ∧ ∀ g, u.ownBlock = some g → w.heap.size ≤ g) (fun _ i _ => n.toNat - (intOf i).toNat)
    ⟨0, Nat.zero_le _, rfl, Own.nil _ _ _, Ext.refl _, fun g hg => by simp [Value.ownBlock] at hg⟩ ?_
  rintro u _ w1 ⟨k, hk, rfl, ho, e1, hlow⟩
  simp only [lss_r]
  refine CondP.dec (fun h => ?_) (fun h => ?_)
  · try simp only [JoinP.eq]
    refine r_append1 sl22 ho rfl (all_one rfl) (by unfold maxLen; omega) (by omega) fun u2 w2 ho2 hg2 => ?_
    obtain ⟨x2, hl2⟩ := hg2.grw.isExt e1 hlow
    simp only [add_r]
    refine ⟨⟨k + 1, by omega, succ64 (by omega), ?_, x2, hl2⟩, ?_⟩
    · rw [List.replicate_succ']; exact ho2
    · rw [succ64 (by omega)]; simp [intOf]; omega
  · have hk' : k = n.toNat := by omega
    subst hk'
    refine ⟨e1, ?_⟩
    have hfl : ∀ n : Nat, List.replicate n nilS = (List.replicate n ([] : List DRule)).flatMap fun _ => [nilS] := by
      intro n
      induction n with
      | zero => rfl
      | succ n ih => rw [List.replicate_succ, List.replicate_succ, List.flatMap_cons, ih]; rfl
    rw [hfl] at ho
    have ho' : Own w1 57 1 u (List.replicate n.toNat ([] : List DRule)).length ((List.replicate n.toNat ([] : List DRule)).flatMap fun _ => [nilS]) := by
      rw [List.length_replicate]; exact ho
    have := ho'.sl (R := fun cs x => cs = [nilS] ∧ x = []) (fun _ _ => rfl) (fun x hx => ⟨rfl, (List.mem_replicate.1 hx).2⟩)
    refine this.imp fun cs x hx => ⟨nilS, hx.1, ?_, ?_⟩
    · rw [hx.2]; exact Sl.nil _ _ _ _ _
    · rw [hx.2]; simp
def wF : DFr := ⟨5, false, [9]⟩
theorem wF_ok : InR wF := ⟨by decide, by decide, by decide⟩
theorem wF_valid : Valid wF := ⟨by decide, by decide, by decide, by decide⟩
def wS1 : List PS := [⟨[wF], [], [], 0, 0, 0, 0, 0⟩, ⟨[], [], [], 0, 0, 0, 0, 0⟩]
def wS2 : List PS := [⟨[], [], [], 1, 0, 0, 0, 0⟩, ⟨[], [wF], [], 0, 1, 0, 0, 0⟩]
theorem w_send : sendP 2 ((List.replicate 2 ([] : List DRule)).map PS.new) 0 wF = (0, wS1) := by kernel_rfl
theorem w_dec : decodeP (wireP (bitsP wF)) = some wF := (decode_wire _).trans (parse_bits _ wF_valid)
theorem w_tick : tickP 2 wS1 [] ⟨false, false, 0, []⟩ = (0, wS2, []) := by
  have hf : firstP wS1 = some (0, wF) := by kernel_rfl
  have hg : goesP 2 wS1 0 wF ⟨false, false, 0, []⟩ = (wS2, []) := by
    have h1 : goesP 2 wS1 0 wF ⟨false, false, 0, []⟩ = (tellP 2 0 (decodeP (wireP (bitsP wF))) [⟨[], [], [], 1, 0, 0, 0, 0⟩, ⟨[], [], [], 0, 0, 0, 0, 0⟩], []) := rfl
    rw [h1, w_dec]
    rfl
  unfold tickP
  rw [hf]
  simp only
  rw [hg]
  rfl
theorem w_take : takeP wS2 1 = (.inr wF, [⟨[], [], [], 1, 0, 0, 0, 0⟩, ⟨[], [], [], 0, 1, 0, 0, 0⟩]) := by kernel_rfl
theorem q_ptr (a b : Nat) : Pure Try.prog (binSem .eql 25 (.tmp a) (.const (.pointer none)) (ptr b) (.pointer none)) (.bool false) := fun w => by kernel_rfl
theorem bFr2 (p : Option Addr) (n c : Nat) : Pure Try.prog (Instr.build 35 #[(0, .int .u32 5), (2, .slice p n c)]) (.agg #[.int .u32 5, .bool false, .slice p n c]) := fun w => by kernel_rfl
theorem bWi0 : Pure Try.prog (Instr.build 38 #[]) (wireA ⟨false, false, 0, []⟩ (.slice none 0 0)) := fun w => by kernel_rfl
theorem Ext.mod {w0 w w' : World} {S : List Nat} (e : Ext w0 w) (m : Mod S w w') (hs : ∀ k ∈ S, w0.heap.size ≤ k) : Ext w0 w' :=
  Mod.new (S := []) ((Mod.ext e).newS m fun k hk => .inr (hs k hk)) (by simp)
/-- A slice of one byte. -/
theorem r_nine {w : World} {K : Value → World → Prop} (k : ∀ u w', Ext w w' → OBytes w' u [9] → K u w') : Run Try.prog (Instr.buildSlice 33 1 #[(0, .int .u8 9)]) w K := by
  refine .of (run_build1 sl33 rfl w) (k _ _ (alloc_ext _ _) ⟨rfl, .inr ⟨_, 1, [], rfl, Nat.le_refl _, by unfold maxLen; omega, rfl, ?_⟩⟩)
  unfold Blk; rw [heap_alloc_new]; rfl
theorem works {w : World} : Does Try.prog 7 [] w fun r w' => Ext w w' ∧ r = .bool true := by
  refine D7 ?_
  unfold S7
  refine GoN.does pl21 (all_ (n := 2) (by decide) (by decide)) ?_
  rintro v w1 ⟨e1, hru⟩
  refine GoN.does pl8 (newB (room := 2) (Sub.self w1) hru) ?_
  rintro r w2 ⟨e2, _, hok⟩
  obtain ⟨b, gs, rfl, h2, hlow⟩ := hok ⟨⟨by decide, by decide⟩, by decide, by decide⟩
  have e02 := e1.trans e2
  rw [Pure.run (x2_0 _ _), Pure.run (x2_1 _ _), Pure.run (e_nilnil _)]
  simp only [JoinP.eq, PickP.eq, GuardP.yes, GuardP.undef, GuardP.no (show (true == false) = false from rfl), GuardP.no (show (false == true) = false from rfl), CondP.tt, CondP.ff, add_r, sub_r, mul_r, lss_r, leq_r, gtr_r, geq_r, eql_r, neq_r, eqs_r, nes_r, not_r, nil_r, Bool.not_true, Bool.not_false, if_true, if_false, Bool.false_eq_true, decide_true, decide_false, Nat.zero_add, Bool.and_true, Bool.true_and]
  rw [Pure.run (q_ptr _ _)]
  simp only [JoinP.eq, PickP.eq, GuardP.yes, GuardP.undef, GuardP.no (show (true == false) = false from rfl), GuardP.no (show (false == true) = false from rfl), CondP.tt, CondP.ff, add_r, sub_r, mul_r, lss_r, leq_r, gtr_r, geq_r, eql_r, neq_r, eqs_r, nes_r, not_r, nil_r, Bool.not_true, Bool.not_false, if_true, if_false, Bool.false_eq_true, decide_true, decide_false, Nat.zero_add, Bool.and_true, Bool.true_and]
  refine r_nine fun u w3 e3 hu => ?_
  obtain ⟨p, c, rfl, _⟩ := hu.len
  rw [Pure.run (bFr2 _ _ _)]
  have h3 := h2.ext e3
  refine GoN.does pl10 (send (f := wF) (n := 0) h3 (by decide) (by decide) (Sub.self w3) hu.bytes wF_ok) ?_
  rintro r w4 ⟨m4, h4, rfl⟩
  rw [show (2 : Int).toNat = 2 from rfl] at *
  rw [w_send] at h4 ⊢
  rw [show errV (0, wS1).1 = .nilIface from errV_0, Pure.run (e_nilnil _)]
  simp only [JoinP.eq, PickP.eq, GuardP.yes, GuardP.undef, GuardP.no (show (true == false) = false from rfl), GuardP.no (show (false == true) = false from rfl), CondP.tt, CondP.ff, add_r, sub_r, mul_r, lss_r, leq_r, gtr_r, geq_r, eql_r, neq_r, eqs_r, nes_r, not_r, nil_r, Bool.not_true, Bool.not_false, if_true, if_false, Bool.false_eq_true, decide_true, decide_false, Nat.zero_add, Bool.and_true, Bool.true_and]
  rw [Pure.run bWi0]
  have x3 : Ext w w3 := e02.trans e3
  have hge : ∀ k ∈ foot b gs, w.heap.size ≤ k := fun k hk => Nat.le_trans e1.size (hlow k hk)
  have x4 : Ext w w4 := Ext.mod x3 m4 hge
  refine GoN.does pl13 (tick (m := fun _ _ => none) (x := ⟨false, false, 0, []⟩) h4 (by decide) (by decide) (by decide) (by decide) (by
    intro s hs f hf
    simp [wS1] at hs
    rcases hs with rfl | rfl
    · simp at hf; subst hf; exact wF_valid
    · simp at hf) (fun b o v hv => by cases hv) (fun k hk o => rfl) (Sl.nil _ _ _ _ _) (by decide)) ?_
  rintro r w5 ⟨m5, h5, rfl⟩
  simp only [w_tick] at h5 ⊢
  rw [errV_0, Pure.run (e_nilnil _)]
  simp only [JoinP.eq, PickP.eq, GuardP.yes, GuardP.undef, GuardP.no (show (true == false) = false from rfl), GuardP.no (show (false == true) = false from rfl), CondP.tt, CondP.ff, add_r, sub_r, mul_r, lss_r, leq_r, gtr_r, geq_r, eql_r, neq_r, eqs_r, nes_r, not_r, nil_r, Bool.not_true, Bool.not_false, if_true, if_false, Bool.false_eq_true, decide_true, decide_false, Nat.zero_add, Bool.and_true, Bool.true_and]
  have x5 : Ext w w5 := Ext.mod x4 m5 hge
  refine GoN.does pl14 (takeB (n := 1) h5 (by decide)) ?_
  rintro r w6 ⟨m6, h6, hv⟩
  simp only [w_take] at h6 hv
  obtain ⟨v6, rfl, hok6⟩ := hv
  have x6 : Ext w w6 := Ext.mod x5 m6 hge
  rw [Pure.run (x2_0 _ _), Pure.run (x2_1 _ _)]
  refine r_alloc zero35 fun w7 e7 z7 b7 => ?_
  refine r_store size35 (l := frC wF v6) rfl rfl (ent_one hok6) b7 (show 0 + 3 ≤ 3 by decide) fun w8 c8 b8 => ?_
  have b8 : Blk w8 w6.heap.size (frC wF v6) 35 := b8
  have e68 : Ext w6 w8 := e7.chg c8 (Nat.le_refl _)
  have hok8 := hok6.mod (Mod.ext (S := []) e68) (.nil _ _)
  rw [Pure.run (q_nilnil _)]
  simp only [JoinP.eq, PickP.eq, GuardP.yes, GuardP.undef, GuardP.no (show (true == false) = false from rfl), GuardP.no (show (false == true) = false from rfl), CondP.tt, CondP.ff, add_r, sub_r, mul_r, lss_r, leq_r, gtr_r, geq_r, eql_r, neq_r, eqs_r, nes_r, not_r, nil_r, Bool.not_true, Bool.not_false, if_true, if_false, Bool.false_eq_true, decide_true, decide_false, Nat.zero_add, Bool.and_true, Bool.true_and]
  rw [ldN b8 agg35 (o := 0) rfl]
  refine r_nine fun u9 w9 e9 hu9 => ?_
  obtain ⟨p9, c9, rfl, _⟩ := hu9.len
  rw [Pure.run (bFr2 _ _ _)]
  refine GoN.does pl20 (sameF (f := wF) (g := wF) (Sub.self w9) (ent_sl (hok8.mod (Mod.ext (S := []) e9) (.nil _ _))) hu9.bytes (by decide)) ?_
  rintro _ w10 ⟨e10, rfl⟩
  simp only [JoinP.eq, PickP.eq, GuardP.yes, GuardP.undef, GuardP.no (show (true == false) = false from rfl), GuardP.no (show (false == true) = false from rfl), CondP.tt, CondP.ff, add_r, sub_r, mul_r, lss_r, leq_r, gtr_r, geq_r, eql_r, neq_r, eqs_r, nes_r, not_r, nil_r, Bool.not_true, Bool.not_false, if_true, if_false, Bool.false_eq_true, decide_true, decide_false, Nat.zero_add, Bool.and_true, Bool.true_and]
  exact ⟨(x6.trans e68).trans (e9.trans e10), by first | rfl | simp⟩
end Go.Proofs.Ytfdjkdiebabimaa.Sh
