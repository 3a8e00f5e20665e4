/- A row that is full refuses, and nothing changes. Conditions: none. -/
import Derived.Test.YtfdjkdiebabimaaCp
set_option linter.unusedVariables false
set_option linter.unusedSimpArgs false
set_option maxRecDepth 100000
namespace Go.Proofs.Ytfdjkdiebabimaa.Sh
open Go Go.V Go.RowKit Go.Extern Go.Proofs.Ytfdjkdiebabimaa.Bp

/-! The plain part: a station that sends f, and one that has heard m times. -/
def sSend (f : DFr) (a : Nat) (s : Int) : PS := ⟨List.replicate a f, [], [], s, 0, 0, 0, 0⟩
def sHear (N : Nat) (f : DFr) (m : Nat) : PS := ⟨[], List.replicate (min m N) f, [], 0, (min m N : Nat), 0, 0, (m - min m N : Nat)⟩
def ssF (N : Nat) (f : DFr) (a : Nat) (s : Int) (m : Nat) : List PS := [sSend f a s, sHear N f m]
theorem ss_new (N : Nat) (f : DFr) : (List.replicate 2 ([] : List DRule)).map PS.new = ssF N f 0 0 0 := by
  simp [ssF, sSend, sHear, PS.new, List.replicate]
theorem full_send {N : Nat} {f : DFr} {a m : Nat} {s : Int} (he : encErr f = 0) : sendP N (ssF N f a s m) 0 f = if a = N then (24, ssF N f a s m) else (0, ssF N f (a + 1) s m) := by
  have ht : there? 0 (ssF N f a s m) = true := rfl
  unfold sendP
  rw [ht, if_pos rfl, if_neg (by rw [he]; simp)]
  show (if (List.replicate a f).length = N then 24 else 0, [{ sSend f a s with out := pushQ N (List.replicate a f) f }, sHear N f m]) = _
  unfold pushQ
  rw [List.length_replicate]
  by_cases h : a = N
  · rw [if_pos h, if_pos h, if_pos h]; rfl
  · rw [if_neg h, if_neg h, if_neg h]
    simp only [ssF, sSend, List.replicate_succ']
theorem full_first {N : Nat} {f : DFr} {a m : Nat} {s : Int} : firstP (ssF N f (a + 1) s m) = some (0, f) := by
  simp [firstP, firstTo, firstStep, ssF, sSend, sHear, List.replicate_succ]
theorem full_dec {f : DFr} (hv : Valid f) : decodeP (wireP (flipsP (bitsP f) [])) = some f := (decode_wire _).trans (parse_bits _ hv)
theorem inc_small {c : Nat} (h : c ≤ 1000000) : inc (c : Int) = ((c + 1 : Nat) : Int) := by
  unfold inc; rw [wrap64_id (by omega) (by omega)]; omega
theorem hear_step {N : Nat} {f : DFr} {m : Nat} (hN : N ≤ 64) (hm : m ≤ 1000) : hearP N (some f) (sHear N f m) = sHear N f (m + 1) := by
  have ht : takesP (sHear N f m).rules f = true := rfl
  have hl : (sHear N f m).inn.length = min m N := by simp [sHear]
  unfold hearP
  simp only [ht, if_true, hl]
  by_cases h : min m N = N
  · rw [if_pos h]
    have h1 : min (m + 1) N = N := by omega
    have hd : inc ((m - min m N : Nat) : Int) = ((m + 1 - min (m + 1) N : Nat) : Int) := by
      rw [inc_small (by omega)]; congr 1; omega
    simp only [sHear, h, h1] at hd ⊢
    rw [hd]
  · rw [if_neg h]
    have h0 : min m N = m := by omega
    have h1 : min (m + 1) N = m + 1 := by omega
    simp only [sHear, h0, h1, inc_small (show m ≤ 1000000 by omega), List.replicate_succ']
    congr 1
    congr 1
    omega
theorem full_tell {N : Nat} {f : DFr} {a m : Nat} {s : Int} (hN : N ≤ 64) (hm : m ≤ 1000) : tellP N 0 (some f) (ssF N f a s m) = ssF N f a s (m + 1) := by
  have : tellP N 0 (some f) (ssF N f a s m) = [sSend f a s, hearP N (some f) (sHear N f m)] := rfl
  rw [this, hear_step hN hm]; rfl
theorem full_lost {N : Nat} {f : DFr} {a m : Nat} {s : Int} : tickP N (ssF N f (a + 1) s m) [] ⟨true, false, 0, []⟩ = (0, ssF N f a (inc s) m, []) := by
  unfold tickP
  rw [full_first]
  have hg : goesP N (ssF N f (a + 1) s m) 0 f ⟨true, false, 0, []⟩ = (ssF N f a (inc s) m, []) := by
    simp [goesP, ssF, sSend, goneS, List.replicate_succ]
  simp only
  rw [hg]; rfl
theorem full_twice {N : Nat} {f : DFr} {a m : Nat} {s : Int} (hv : Valid f) (hN : N ≤ 64) (hm : m + 1 ≤ 1000) : tickP N (ssF N f (a + 1) s m) [] ⟨false, true, 0, []⟩ = (0, ssF N f a (inc s) (m + 2), []) := by
  unfold tickP
  rw [full_first]
  have hg : goesP N (ssF N f (a + 1) s m) 0 f ⟨false, true, 0, []⟩ = (ssF N f a (inc s) (m + 2), []) := by
    have h1 : goesP N (ssF N f (a + 1) s m) 0 f ⟨false, true, 0, []⟩ = (comesP N ⟨0, flipsP (bitsP f) [], true, 0⟩ (ssF N f a (inc s) m), []) := by
      simp [goesP, ssF, sSend, goneS, List.replicate_succ]
    rw [h1]
    unfold comesP
    simp only [if_true]
    rw [full_dec hv, full_tell hN (by omega), full_tell hN (by omega)]
  simp only
  rw [hg]; rfl
theorem full_out {N : Nat} {f : DFr} {a m : Nat} {s : Int} (hv : Valid f) : OutOk (ssF N f a s m) := by
  intro t ht g hg
  simp [ssF] at ht
  rcases ht with rfl | rfl
  · simp [sSend] at hg; rw [hg.2]; exact hv
  · simp [sHear] at hg
/-! The walk. -/
theorem bWiL : Pure Try.prog (Instr.build 38 #[(0, .bool true)]) (wireA ⟨true, false, 0, []⟩ (.slice none 0 0)) := fun w => by kernel_rfl
theorem bWiT : Pure Try.prog (Instr.build 38 #[(1, .bool true)]) (wireA ⟨false, true, 0, []⟩ (.slice none 0 0)) := fun w => by kernel_rfl
theorem neq_cnt0 (a b : Nat) : Pure Try.prog (binSem .neq 64 (.tmp a) (.tmp b) (cntA cnt0) (cntA cnt0)) (.bool false) := fun w => by kernel_rfl
def noM : Mem := fun _ _ => none
theorem noM_sub (w : World) : Sub noM w := fun b o v hv => by cases hv
theorem noM_ints : Ints noM (.slice none 0 0) [] := Sl.nil _ _ _ _ _
/-- The bus under way, and a frame beside it. -/
structure FullAt (w w' : World) (b N : Nat) (gs : List SG) (ss : List PS) (f : DFr) (v : Value) (bf : Nat) : Prop where
  ext : Ext w w'
  bus : BusAt w' b N gs ss []
  fr : Blk w' bf (frC f v) 35
theorem FullAt.turn {w w1 w2 : World} {b N : Nat} {gs : List SG} {ss ss' : List PS} {f : DFr} {v : Value} {bf : Nat} (h : FullAt w w1 b N gs ss f v bf) (hge : ∀ k ∈ foot b gs, w.heap.size ≤ k) (hbf : bf ∉ foot b gs) (m : Mod (foot b gs) w1 w2) (hb : BusAt w2 b N gs ss' []) : FullAt w w2 b N gs ss' f v bf :=
  ⟨Ext.mod h.ext m hge, hb, h.fr.mod m hbf⟩
theorem FullAt.step {w w1 w2 : World} {b N : Nat} {gs : List SG} {ss : List PS} {f : DFr} {v : Value} {bf : Nat} (h : FullAt w w1 b N gs ss f v bf) (e : Ext w1 w2) : FullAt w w2 b N gs ss f v bf := ⟨h.ext.trans e, h.bus.ext e, h.fr.ext e⟩
theorem busFull {m : Mem} {room : Int} {f : DFr} {v : Value} {w : World} (hm : Sub m w) (hv : Bytes m v f.data) (hin : InR f) :
    Does Try.prog 5 [.int .i64 room, frA f v] w fun r w' => Ext w w' ∧ r = .bool true := by
  obtain ⟨p, c, rfl, hc⟩ := hv.form
  refine D5 ?_
  unfold S5
  refine r_box fun w1 e1 z1 b1 => ?_
  have b1 : Blk w1 w.heap.size (frC f (.slice p f.data.length c)) 35 := b1
  refine GoN.does pl7 works ?_
  rintro _ w2 ⟨e2, rfl⟩
  rw [not_r, Bool.not_true, CondP.ff]
  show Run _ _ _ _
  have e02 := e1.trans e2
  rw [ldN (b1.ext e2) agg35 (o := 0) rfl]
  refine GoN.does pl17 (encode (f := f) (hm.ext e02) hv hin) ?_
  rintro _ w3 ⟨e3, u, rfl⟩
  have e03 := e02.trans e3
  rw [Pure.run (x2_0 _ _), Pure.run (x2_1 _ _)]
  by_cases hen : encErr f = 0
  rotate_left
  · rw [errV_ne hen, show errno (encErr f) = .iface 70 (.int .i64 (encErr f)) from rfl, Pure.run (e_nil _ _ _ _), CondP.tt]
    exact ⟨e03, rfl⟩
  have hva := valid_of hen hin
  rw [hen, errV_0, Pure.run (e_nilnil _), CondP.ff]
  refine GoN.does pl16 (pick (k := room) (n := 64) (by decide) (by decide)) ?_
  rintro _ w4 ⟨rfl, j, rfl, hj0, hj1⟩
  rw [add_r, wrap64_id (by omega) (by omega)]
  obtain ⟨N, hN⟩ : ∃ N : Nat, 1 + j = (N : Int) := ⟨(1 + j).toNat, by omega⟩
  rw [hN]
  have hN1 : 1 ≤ N := by omega
  have hN64 : N ≤ 64 := by omega
  refine GoN.does pl21 (all_ (n := 2) (by decide) (by decide)) ?_
  rintro vr w5 ⟨e5, hru⟩
  refine GoN.does pl8 (newB (room := (N : Int)) (Sub.self w5) hru) ?_
  rintro r w6 ⟨e6, _, hok⟩
  obtain ⟨b, gs, rfl, h6, hlow⟩ := hok ⟨⟨by decide, by decide⟩, by omega, by omega⟩
  rw [show (2 : Int).toNat = 2 from rfl, ss_new N f, show ((N : Nat) : Int).toNat = N from rfl] at h6
  rw [Pure.run (x2_0 _ _), Pure.run (x2_1 _ _), Pure.run (e_nilnil _), CondP.ff]
  have e06 := (e03.trans e5).trans e6
  have hge : ∀ k ∈ foot b gs, w.heap.size ≤ k := fun k hk => Nat.le_trans (e03.trans e5).size (hlow k hk)
  have hbf : w.heap.size ∉ foot b gs := fun hk => by have := hlow _ hk; have := b1.lt; have := ((e2.trans e3).trans e5).size; omega
  have st6 : FullAt w w6 b N gs (ssF N f 0 0 0) f (.slice p f.data.length c) w.heap.size := ⟨e06, h6, b1.ext (((e2.trans e3).trans e5).trans e6)⟩
  simp only [JoinP.eq]
  refine LoopP.of2 (fun _ i w' => ∃ k : Nat, k ≤ N ∧ i = .int .i64 k ∧ FullAt w w' b N gs (ssF N f k 0 0) f (.slice p f.data.length c) w.heap.size) (fun _ i _ => N - (intOf i).toNat) ⟨0, Nat.zero_le _, rfl, st6⟩ ?_
  rintro t4 _ w7 ⟨k, hk, rfl, st7⟩
  simp only [lss_r]
  refine CondP.dec (fun hlt => ?_) (fun hlt => ?_)
  · have hk' : k < N := by omega
    try simp only [JoinP.eq]
    rw [ldN st7.fr agg35 (o := 0) rfl]
    refine GoN.does pl10 (send (f := f) (n := 0) st7.bus hN1 hN64 (hm.ext st7.ext) hv hin) ?_
    rintro _ w8 ⟨m8, h8, rfl⟩
    rw [full_send hen, if_neg (by omega)] at h8 ⊢
    rw [show errV (0, ssF N f (k + 1) 0 0).1 = .nilIface from errV_0, Pure.run (e_nilnil _), CondP.ff]
    try simp only [add_r]
    refine ⟨⟨k + 1, by omega, succ64 (by omega), st7.turn hge hbf m8 h8⟩, ?_⟩
    rw [succ64 (by omega)]; simp [intOf]; omega
  · have hk' : k = N := by omega
    subst hk'
    -- full
    have again : ∀ {w7 : World} {s : Int} {K : Value → World → Prop}, FullAt w w7 b k gs (ssF k f k s 0) f (.slice p f.data.length c) w.heap.size →
        (∀ w8, FullAt w w8 b k gs (ssF k f k s 0) f (.slice p f.data.length c) w.heap.size → Mod (foot b gs) w7 w8 → K (errno 24) w8) → GoN Try.prog (callFunc 10 #[ptr b, .int .i64 0, frA f (.slice p f.data.length c)]) w7 K := by
      intro w7 s K st7 hK
      refine GoN.does pl10 (send (f := f) (n := 0) st7.bus hN1 hN64 (hm.ext st7.ext) hv hin) ?_
      rintro _ w8 ⟨m8, h8, rfl⟩
      rw [full_send hen, if_pos rfl] at h8 ⊢
      exact hK w8 (st7.turn hge hbf m8 h8) m8
    rw [ldN st7.fr agg35 (o := 0) rfl]
    refine again st7 fun w8 st8 m8 => ?_
    rw [ldN st8.fr agg35 (o := 0) rfl]
    refine again st8 fun w9 st9 m9 => ?_
    refine GoN.does pl22 (waiting st9.bus hN64 (by show 2 ≤ _; decide)) ?_
    rintro _ w10 ⟨e10, rfl⟩
    have hwt : waitTo (ssF k f k 0 0) (ssF k f k 0 0).length = k := by
      show 0 + (List.replicate k f).length + 0 = k
      simp
    rw [hwt, show ((([] : List DLate).length : Nat) : Int) = 0 from rfl, Pure.run (x2_0 _ _), Pure.run (x2_1 _ _)]
    have st10 := st9.step e10
    refine GoN.does pl23 (countsB (n := 0) st10.bus) ?_
    rintro r w11 ⟨e11, _, hcok⟩
    have := hcok (sSend f k 0) rfl rfl
    subst this
    rw [Pure.run (x2_0 _ _), Pure.run (x2_1 _ _)]
    have st11 := st10.step e11
    refine r_alloc zero64 fun w12 e12 z12 b12 => ?_
    refine r_store size64 (l := cntC (sSend f k 0)) rfl rfl (cnt_one _) b12 (show 0 + 5 ≤ 5 by decide) fun w13 c13 b13 => ?_
    have b13 : Blk w13 w11.heap.size (cntC cnt0) 64 := b13
    have e1113 : Ext w11 w13 := e12.chg c13 (Nat.le_refl _)
    have st13 := st11.step e1113
    have hcf : w11.heap.size ∉ foot b gs := fun hk => by have := st11.bus.lt _ hk; omega
    refine GoN.does pl9 (num 24 w13 (by decide) (by decide)) ?_
    rintro _ w14 ⟨rfl, e14⟩
    rw [neq_r, show (!decide ((24 : Int) = 24)) = false from rfl]
    simp only [JoinP.eq, PickP.eq, GuardP.yes, GuardP.undef, GuardP.no (show (true == false) = false from rfl), GuardP.no (show (false == true) = false from rfl), CondP.tt, CondP.ff, add_r, sub_r, mul_r, lss_r, leq_r, gtr_r, geq_r, eql_r, neq_r, eqs_r, nes_r, not_r, nil_r, Bool.not_true, Bool.not_false, if_true, if_false, Bool.false_eq_true, decide_true, decide_false, Nat.zero_add, Bool.and_true, Bool.true_and]
    refine GoN.does pl9 (num 24 w14 (by decide) (by decide)) ?_
    rintro _ w15 ⟨rfl, e15⟩
    have b15 := (b13.ext e14).ext e15
    have st15 := (st13.step e14).step e15
    rw [neq_r, show (!decide ((24 : Int) = 24)) = false from rfl]
    simp only [JoinP.eq, PickP.eq, GuardP.yes, GuardP.undef, GuardP.no (show (true == false) = false from rfl), GuardP.no (show (false == true) = false from rfl), CondP.tt, CondP.ff, add_r, sub_r, mul_r, lss_r, leq_r, gtr_r, geq_r, eql_r, neq_r, eqs_r, nes_r, not_r, nil_r, Bool.not_true, Bool.not_false, if_true, if_false, Bool.false_eq_true, decide_true, decide_false, Nat.zero_add, Bool.and_true, Bool.true_and, Pure.run (e_nilnil _)]
    rw [ldN b15 agg64 (o := 0) rfl, Pure.run bCnt0, show (Value.agg (List.take 5 (List.drop 0 (cntC cnt0))).toArray) = cntA cnt0 from rfl, Pure.run (neq_cnt0 _ _)]
    simp only [JoinP.eq, PickP.eq, GuardP.yes, GuardP.undef, GuardP.no (show (true == false) = false from rfl), GuardP.no (show (false == true) = false from rfl), CondP.tt, CondP.ff, add_r, sub_r, mul_r, lss_r, leq_r, gtr_r, geq_r, eql_r, neq_r, eqs_r, nes_r, not_r, nil_r, Bool.not_true, Bool.not_false, if_true, if_false, Bool.false_eq_true, decide_true, decide_false, Nat.zero_add, Bool.and_true, Bool.true_and]
    rw [Pure.run bWiL]
    obtain ⟨k', rfl⟩ : ∃ k', k = k' + 1 := ⟨k - 1, by omega⟩
    have bus15 := st15.bus
    refine GoN.does pl13 (tick (m := noM) (x := ⟨true, false, 0, []⟩) bus15 hN1 hN64 (by show 2 ≤ _; decide) (by simp) (full_out hva) (noM_sub _) (fun k hk o => rfl) noM_ints (by decide)) ?_
    rintro _ w16 ⟨m16, h16, rfl⟩
    simp only [full_lost] at h16 ⊢
    have st16 := st15.turn hge hbf m16 h16
    have b16 := b15.mod m16 hcf
    rw [errV_0, Pure.run (e_nilnil _)]
    simp only [JoinP.eq, PickP.eq, GuardP.yes, GuardP.undef, GuardP.no (show (true == false) = false from rfl), GuardP.no (show (false == true) = false from rfl), CondP.tt, CondP.ff, add_r, sub_r, mul_r, lss_r, leq_r, gtr_r, geq_r, eql_r, neq_r, eqs_r, nes_r, not_r, nil_r, Bool.not_true, Bool.not_false, if_true, if_false, Bool.false_eq_true, decide_true, decide_false, Nat.zero_add, Bool.and_true, Bool.true_and]
    rw [ldN st16.fr agg35 (o := 0) rfl]
    refine GoN.does pl10 (send (f := f) (n := 0) st16.bus hN1 hN64 (hm.ext st16.ext) hv hin) ?_
    rintro _ w17 ⟨m17, h17, rfl⟩
    rw [full_send hen, if_neg (by omega)] at h17 ⊢
    have st17 := st16.turn hge hbf m17 h17
    have b17 := b16.mod m17 hcf
    rw [show errV (0, ssF (k' + 1) f (k' + 1) (inc 0) 0).1 = .nilIface from errV_0, Pure.run (e_nilnil _)]
    simp only [JoinP.eq, PickP.eq, GuardP.yes, GuardP.undef, GuardP.no (show (true == false) = false from rfl), GuardP.no (show (false == true) = false from rfl), CondP.tt, CondP.ff, add_r, sub_r, mul_r, lss_r, leq_r, gtr_r, geq_r, eql_r, neq_r, eqs_r, nes_r, not_r, nil_r, Bool.not_true, Bool.not_false, if_true, if_false, Bool.false_eq_true, decide_true, decide_false, Nat.zero_add, Bool.and_true, Bool.true_and]
    rw [ldN st17.fr agg35 (o := 0) rfl]
    refine again st17 fun w18 st18 m18 => ?_
    have b18 := b17.mod m18 hcf
    refine GoN.does pl9 (num 24 w18 (by decide) (by decide)) ?_
    rintro _ w19 ⟨rfl, e19⟩
    have st19 := st18.step e19
    have b19 := b18.ext e19
    rw [neq_r, show (!decide ((24 : Int) = 24)) = false from rfl]
    simp only [JoinP.eq, PickP.eq, GuardP.yes, GuardP.undef, GuardP.no (show (true == false) = false from rfl), GuardP.no (show (false == true) = false from rfl), CondP.tt, CondP.ff, add_r, sub_r, mul_r, lss_r, leq_r, gtr_r, geq_r, eql_r, neq_r, eqs_r, nes_r, not_r, nil_r, Bool.not_true, Bool.not_false, if_true, if_false, Bool.false_eq_true, decide_true, decide_false, Nat.zero_add, Bool.and_true, Bool.true_and]
    -- all go
    refine LoopP.of2 (fun _ i w' => ∃ (j : Nat) (s : Int), j ≤ k' + 1 ∧ i = .int .i64 j ∧ FullAt w w' b (k' + 1) gs (ssF (k' + 1) f (k' + 1 - j) s (2 * j)) f (.slice p f.data.length c) w.heap.size ∧ Blk w' w11.heap.size (cntC cnt0) 64) (fun _ i _ => k' + 1 - (intOf i).toNat) ⟨0, _, Nat.zero_le _, rfl, st19, b19⟩ ?_
    rintro t5 _ w20 ⟨j, s, hj, rfl, st20, b20⟩
    try simp only [lss_r]
    refine CondP.dec (fun hlt2 => ?_) (fun hlt2 => ?_)
    · obtain ⟨a, ha⟩ : ∃ a, k' + 1 - j = a + 1 := ⟨k' - j, by omega⟩
      rw [ha] at st20
      try simp only [JoinP.eq]
      rw [Pure.run bWiT]
      refine GoN.does pl13 (tick (m := noM) (x := ⟨false, true, 0, []⟩) st20.bus hN1 hN64 (by show 2 ≤ _; decide) (by simp) (full_out hva) (noM_sub _) (fun k hk o => rfl) noM_ints (by decide)) ?_
      rintro _ w21 ⟨m21, h21, rfl⟩
      simp only [full_twice hva hN64 (show 2 * j + 1 ≤ 1000 by omega)] at h21 ⊢
      have st21 := st20.turn hge hbf m21 h21
      have b21 := b20.mod m21 hcf
      rw [errV_0, Pure.run (e_nilnil _), CondP.ff]
      try simp only [add_r]
      refine ⟨⟨j + 1, inc s, by omega, succ64 (by omega), ?_, b21⟩, ?_⟩
      · rw [show k' + 1 - (j + 1) = a by omega, show 2 * (j + 1) = 2 * j + 2 by omega]; exact st21
      · rw [succ64 (by omega)]; simp [intOf]; omega
    · have hj' : j = k' + 1 := by omega
      subst hj'
      refine GoN.does pl23 (countsB (n := 1) st20.bus) ?_
      rintro r w21 ⟨e21, _, hcok⟩
      have := hcok (sHear (k' + 1) f (2 * (k' + 1))) rfl rfl
      subst this
      rw [Pure.run (x2_0 _ _), Pure.run (x2_1 _ _)]
      refine r_store size64 (l := cntC (sHear (k' + 1) f (2 * (k' + 1)))) rfl rfl (cnt_one _) (b20.ext e21) (show 0 + 5 ≤ 5 by decide) fun w22 c22 b22 => ?_
      have b22 : Blk w22 w11.heap.size (cntC (sHear (k' + 1) f (2 * (k' + 1)))) 64 := b22
      have hx : Ext w w22 := (st20.ext.trans e21).chg c22 (by have := st11.ext.size; omega)
      have hmin : min (2 * (k' + 1)) (k' + 1) = k' + 1 := by omega
      have hd : 2 * (k' + 1) - (k' + 1) = k' + 1 := by omega
      have hc5 : cntC (sHear (k' + 1) f (2 * (k' + 1))) = [.int .i64 0, .int .i64 ((k' + 1 : Nat) : Int), .int .i64 0, .int .i64 0, .int .i64 ((k' + 1 : Nat) : Int)] := by
        simp only [cntC, sHear, hmin, hd]
      rw [hc5] at b22
      rw [Pure.run (q_nilnil _)]
      simp only [GuardP.yes, Pure.run (p_field (o := 0) fld64_1), Pure.run (p_field (o := 0) fld64_2), Pure.run (p_field (o := 0) fld64_3), Pure.run (p_field (o := 0) fld64_4)]
      rw [ld1 b22 one3 (o := 0 + 1) rfl, eql_r, decide_eq_true rfl]
      simp only [JoinP.eq, PickP.eq, GuardP.yes, GuardP.undef, GuardP.no (show (true == false) = false from rfl), GuardP.no (show (false == true) = false from rfl), CondP.tt, CondP.ff, add_r, sub_r, mul_r, lss_r, leq_r, gtr_r, geq_r, eql_r, neq_r, eqs_r, nes_r, not_r, nil_r, Bool.not_true, Bool.not_false, if_true, if_false, Bool.false_eq_true, decide_true, decide_false, Nat.zero_add, Bool.and_true, Bool.true_and]
      rw [ld1 b22 one3 (o := 4) rfl, eql_r, decide_eq_true rfl]
      simp only [JoinP.eq, PickP.eq, GuardP.yes, GuardP.undef, GuardP.no (show (true == false) = false from rfl), GuardP.no (show (false == true) = false from rfl), CondP.tt, CondP.ff, add_r, sub_r, mul_r, lss_r, leq_r, gtr_r, geq_r, eql_r, neq_r, eqs_r, nes_r, not_r, nil_r, Bool.not_true, Bool.not_false, if_true, if_false, Bool.false_eq_true, decide_true, decide_false, Nat.zero_add, Bool.and_true, Bool.true_and]
      rw [ld1 b22 one3 (o := 3) rfl, eql_r, decide_eq_true rfl]
      simp only [JoinP.eq, PickP.eq, GuardP.yes, GuardP.undef, GuardP.no (show (true == false) = false from rfl), GuardP.no (show (false == true) = false from rfl), CondP.tt, CondP.ff, add_r, sub_r, mul_r, lss_r, leq_r, gtr_r, geq_r, eql_r, neq_r, eqs_r, nes_r, not_r, nil_r, Bool.not_true, Bool.not_false, if_true, if_false, Bool.false_eq_true, decide_true, decide_false, Nat.zero_add, Bool.and_true, Bool.true_and]
      rw [ld1 b22 one3 (o := 2) rfl, eql_r, decide_eq_true rfl]
      simp only [JoinP.eq, PickP.eq, GuardP.yes, GuardP.undef, GuardP.no (show (true == false) = false from rfl), GuardP.no (show (false == true) = false from rfl), CondP.tt, CondP.ff, add_r, sub_r, mul_r, lss_r, leq_r, gtr_r, geq_r, eql_r, neq_r, eqs_r, nes_r, not_r, nil_r, Bool.not_true, Bool.not_false, if_true, if_false, Bool.false_eq_true, decide_true, decide_false, Nat.zero_add, Bool.and_true, Bool.true_and]
      exact ⟨hx, by first | rfl | trivial⟩
end Go.Proofs.Ytfdjkdiebabimaa.Sh
