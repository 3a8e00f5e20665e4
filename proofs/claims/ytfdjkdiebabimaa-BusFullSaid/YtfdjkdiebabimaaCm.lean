/- The walk of BusHonest. Conditions: lengths up to 2^30. -/
import Derived.Test.YtfdjkdiebabimaaCl
set_option linter.unusedVariables false
set_option linter.unusedSimpArgs false
set_option maxRecDepth 100000
namespace Go.Proofs.Ytfdjkdiebabimaa.Sh
open Go Go.V Go.RowKit Go.Extern Go.Proofs.Ytfdjkdiebabimaa.Bp

structure DStep where
  kind : Int
  station : Int
  fr : DFr
  wire : DWire
def stepC (x : DStep) (dv fv : Value) : List Value := [.int .i64 x.kind, .int .i64 x.station, .int .u32 (x.fr.id : Int), .bool x.fr.wide, dv, .bool x.wire.lost, .bool x.wire.twice, .int .i64 x.wire.late, fv]
def RStep (m : Mem) (cs : List Value) (x : DStep) : Prop := ∃ dv fv, cs = stepC x dv fv ∧ Bytes m dv x.fr.data ∧ InR x.fr ∧ Ints m fv x.wire.flips ∧ x.wire.flips.length ≤ 140737488355328
abbrev Steps (m : Mem) (v : Value) (l : List DStep) : Prop := Sl m 9 (RStep m) v l
/-- The bus under way. -/
structure Way (w w' : World) (b N : Nat) (gs : List SG) (ss : List PS) (lt : List DLate) (sent : List Snt) (v : Value) : Prop where
  ext : Ext w w'
  bus : BusAt w' b N gs ss lt
  sn : SentAt w' v sent
  vlow : ∀ g, v.ownBlock = some g → w.heap.size ≤ g
  good : Good sent ss lt
theorem Way.step {w w1 w2 : World} {b N : Nat} {gs : List SG} {ss : List PS} {lt : List DLate} {sent : List Snt} {v : Value} (h : Way w w1 b N gs ss lt sent v) (e : Ext w1 w2) : Way w w2 b N gs ss lt sent v :=
  ⟨h.ext.trans e, h.bus.ext e, h.sn.ext e, h.vlow, h.good⟩
theorem Way.turn {w w1 w2 : World} {b N : Nat} {gs : List SG} {ss ss' : List PS} {lt lt' : List DLate} {sent : List Snt} {v : Value} (h : Way w w1 b N gs ss lt sent v) (hge : ∀ k ∈ foot b gs, w.heap.size ≤ k) (m : Mod (foot b gs) w1 w2) (hb : BusAt w2 b N gs ss' lt') (hg : Good sent ss' lt') : Way w w2 b N gs ss' lt' sent v :=
  ⟨Ext.mod h.ext m hge, hb, h.sn.modT m (h.bus.noT (by decide) (by decide) (by decide) (by decide)) (h.bus.noT (by decide) (by decide) (by decide) (by decide)), h.vlow, hg⟩
theorem bSent (n : Int) (i : Int) (b : Bool) (p : Option Addr) (k c : Nat) : Pure Try.prog (Instr.build 44 #[(0, .int .i64 n), (1, .agg #[.int .u32 i, .bool b, .slice p k c])]) (.agg #[.int .i64 n, .int .u32 i, .bool b, .slice p k c]) := fun w => by kernel_rfl
theorem sent_cells (x : Snt × Value) : (Value.agg (sentC x).toArray).cells.toList = sentC x := rfl
theorem busHonest {room : Int} {rv sv : Value} {ll : List (List DRule)} {script : List DStep} {w : World} (hru : RuLists (memW w) rv ll) (hsc : Steps (memW w) sv script) :
    Does Try.prog 3 [.int .i64 room, rv, sv] w fun r w' => Ext w w' ∧ r = .bool true := by
  obtain ⟨pr, cr, rfl, hcr⟩ := hru.form
  obtain ⟨p, c, rfl, hc⟩ := hsc.form
  refine D3 ?_
  unfold S3
  refine GoN.does pl7 works ?_
  rintro _ w1 ⟨e1, rfl⟩
  rw [not_r, Bool.not_true, CondP.ff]
  refine GoN.does pl8 (newB (room := room) ((Sub.self w).ext e1) hru) ?_
  rintro r w2 ⟨e2, hno, hok⟩
  have e02 := e1.trans e2
  by_cases hr : (1 ≤ ll.length ∧ ll.length ≤ 8) ∧ 1 ≤ room ∧ room ≤ 64
  rotate_left
  · have := hno hr
    subst this
    rw [Pure.run (x2_0 _ _), Pure.run (x2_1 _ _)]
    rw [show errno 1 = .iface 70 (.int .i64 1) from rfl, Pure.run (e_nil _ _ _ _)]
    simp only [JoinP.eq, PickP.eq, GuardP.yes, GuardP.undef, GuardP.no (show (true == false) = false from rfl), GuardP.no (show (false == true) = false from rfl), CondP.tt, CondP.ff, add_r, sub_r, mul_r, lss_r, leq_r, gtr_r, geq_r, eql_r, neq_r, eqs_r, nes_r, not_r, nil_r, Bool.not_true, Bool.not_false, if_true, if_false, Bool.false_eq_true, decide_true, decide_false, Nat.zero_add, Bool.and_true, Bool.true_and]
    refine GoN.does pl9 (num 1 w2 (by decide) (by decide)) ?_
    rintro _ w3 ⟨rfl, e3⟩
    rw [eql_r, decide_eq_true rfl]
    simp only [JoinP.eq, PickP.eq, GuardP.yes, GuardP.undef, GuardP.no (show (true == false) = false from rfl), GuardP.no (show (false == true) = false from rfl), CondP.tt, CondP.ff, add_r, sub_r, mul_r, lss_r, leq_r, gtr_r, geq_r, eql_r, neq_r, eqs_r, nes_r, not_r, nil_r, Bool.not_true, Bool.not_false, if_true, if_false, Bool.false_eq_true, decide_true, decide_false, Nat.zero_add, Bool.and_true, Bool.true_and]
    exact ⟨e02.trans e3, by first | rfl | trivial⟩
  obtain ⟨b, gs, rfl, h2, hlow⟩ := hok hr
  have hge : ∀ k ∈ foot b gs, w.heap.size ≤ k := fun k hk => Nat.le_trans e1.size (hlow k hk)
  have hoff : ∀ k ∈ foot b gs, Off (memW w) k := fun k hk => Off.of_dom (Dom.self w) (hge k hk)
  rw [Pure.run (x2_0 _ _), Pure.run (x2_1 _ _), Pure.run (e_nilnil _)]
  simp only [GuardP.yes, Pure.run (p_len sl23.slice), gtr_r, PickP.eq, Bool.false_eq_true, if_false]
  refine CondP.dec (fun h400 => ?_) (fun h400 => ?_)
  · refine GoN.does pl9 (num0 w2) ?_
    rintro _ w3 ⟨rfl, e3⟩
    rw [eql_r, show decide ((0 : Int) = 1) = false from rfl]
    simp only [GuardP.yes, Pure.run (p_len sl23.slice), gtr_r, PickP.eq, Bool.false_eq_true, if_false]
    exact ⟨e02.trans e3, by rw [decide_eq_true h400]⟩
  have hs400 : script.length ≤ 400 := by omega
  have hN1 : 1 ≤ room.toNat := by omega
  have hN64 : room.toNat ≤ 64 := by omega
  simp only [JoinP.eq]
  have way0 : Way w w2 b room.toNat gs (ll.map PS.new) [] [] (.slice none 0 0) := ⟨e02, h2, SentAt.nil _, fun g hg => by simp [Value.ownBlock] at hg, Good.new ll⟩
  refine LoopP.of3 (fun v _ i w' => ∃ (k : Nat) (ss : List PS) (lt : List DLate) (sent : List Snt), k ≤ script.length ∧ i = .int .i64 k ∧ Way w w' b room.toNat gs ss lt sent v ∧ sent.length ≤ k ∧ lt.length ≤ k ∧ ss.length = ll.length) (fun _ _ i _ => script.length - (intOf i).toNat)
    ⟨0, _, _, _, Nat.zero_le _, rfl, way0, Nat.le_refl _, Nat.le_refl _, by simp⟩ ?_
  rintro v t6 _ w3 ⟨k, ss, lt, sent, hk, rfl, way, hsl, hll, hss⟩
  simp only [Pure.run (p_len sl23.slice), lss_r]
  refine CondP.dec (fun hlt => ?_) (fun hlt => ?_)
  · have hk' : k < script.length := by omega
    obtain ⟨x, hx⟩ : ∃ x, script[k]? = some x := ⟨script[k], by simp⟩
    obtain ⟨bl, ol, cs, rfl, _, _, _, hat, dv, fv, rfl, hdv, hin, hfv, hfl⟩ := hsc.get hx
    have hm3 := (Sub.self w).ext way.ext
    try simp only [JoinP.eq]
    rw [Pure.run (p_idx (e := 40) (sz := 9) sl23.slice size40 (by omega) (by omega))]
    refine r_loadN agg40 (l := stepC x dv fv) rfl (by have := hat w3 hm3; simpa using this) ?_
    refine r_alloc zero40 fun w4 e4 z4 b4 => ?_
    obtain ⟨pd, cd, rfl, _⟩ := hdv.form
    obtain ⟨pv, cv, rfl, _⟩ := hfv.form
    refine r_store size40 (l := stepC x (.slice pd x.fr.data.length cd) (.slice pv x.wire.flips.length cv)) rfl rfl (all_one rfl) b4 (show 0 + 9 ≤ 9 by decide) fun w5 c5 b5 => ?_
    have b5 : Blk w5 w3.heap.size (stepC x (.slice pd x.fr.data.length cd) (.slice pv x.wire.flips.length cv)) 40 := b5
    have e35 : Ext w3 w5 := e4.chg c5 (Nat.le_refl _)
    have way5 := way.step e35
    have hflt := way.bus.lt
    have hnf : w3.heap.size ∉ foot b gs := fun hh => by have := hflt _ hh; omega
    rw [Pure.run (p_field (o := 0) fld40_0), ld1 b5 one3 (o := 0 + 0) rfl, eql_r]
    -- the next round
    have fin : ∀ {v' : Value} {w' : World} {ss' : List PS} {lt' : List DLate} {sent' : List Snt} (t : Value), Way w w' b room.toNat gs ss' lt' sent' v' → sent'.length ≤ k + 1 → lt'.length ≤ k + 1 → ss'.length = ll.length →
        (∃ (k_1 : Nat) (ss : List PS) (lt : List DLate) (sent : List Snt), k_1 ≤ script.length ∧ Value.int .i64 (IntKind.i64.wrap ((k : Int) + 1)) = .int .i64 (k_1 : Nat) ∧ Way w w' b room.toNat gs ss lt sent v' ∧ sent.length ≤ k_1 ∧ lt.length ≤ k_1 ∧ ss.length = ll.length) ∧
        script.length - (intOf (Value.int .i64 (IntKind.i64.wrap ((k : Int) + 1)))).toNat < script.length - (intOf (.int .i64 (k : Int))).toNat := by
      intro v' w' ss' lt' sent' _ h1 h2 h3 h4
      refine ⟨⟨k + 1, ss', lt', sent', by omega, succ64 (by omega), h1, h2, h3, h4⟩, ?_⟩
      rw [succ64 (by omega)]; simp [intOf]; omega
    by_cases k1 : x.kind = 1
    · rw [decide_eq_true k1, CondP.tt]
      rw [Pure.run (p_field (o := 0) fld40_1), ld1 b5 one3 (o := 0 + 1) rfl, Pure.run (p_field (o := 0) fld40_2), ldN b5 agg35 (o := 0 + 2) rfl]
      have hm5 := (Sub.self w).ext way5.ext
      refine GoN.does pl10 (send (f := x.fr) (n := x.station) way5.bus hN1 hN64 hm5 hdv hin) ?_
      rintro _ w6 ⟨m6, h6, rfl⟩
      obtain ⟨hg0, hg1⟩ := way5.good.send (n := x.station) (f := x.fr) (N := room.toNat) hin
      have b6 := b5.mod m6 hnf
      by_cases h0 : (sendP room.toNat ss x.station x.fr).1 = 0
      · rw [h0, errV_0, Pure.run (q_nilnil _), CondP.tt]
        rw [Pure.run (p_field (o := 0) fld40_2), ldN b6 agg35 (o := 0 + 2) rfl]
        have x6 := Ext.mod way5.ext m6 hge
        refine GoN.does pl11 (copyF (f := x.fr) ((Sub.self w).ext x6) hdv hin) ?_
        rintro _ w7 ⟨e7, v7, rfl, hok7, _⟩
        refine r_alloc zero35 fun w8 e8 z8 b8 => ?_
        refine r_store size35 (l := frC x.fr v7) rfl rfl (ent_one hok7) b8 (show 0 + 3 ≤ 3 by decide) fun w9 c9 b9 => ?_
        have b9 : Blk w9 w7.heap.size (frC x.fr v7) 35 := b9
        have e79 : Ext w7 w9 := e8.chg c9 (Nat.le_refl _)
        have hok9 := hok7.mod (Mod.ext (S := []) e79) (.nil _ _)
        have e69 := e7.trans e79
        rw [Pure.run (p_field (o := 0) fld40_1), ld1 (b6.ext e69) one3 (o := 0 + 1) rfl, ldN b9 agg35 (o := 0) rfl]
        obtain ⟨p7, cp7, hv7, _⟩ := hok7.own.len
        have hv7 : v7 = .slice p7 x.fr.data.length cp7 := hv7
        subst hv7
        rw [show (List.take 3 (List.drop 0 (frC x.fr (.slice p7 x.fr.data.length cp7)))).toArray = #[Value.int .u32 (x.fr.id : Int), .bool x.fr.wide, .slice p7 x.fr.data.length cp7] from rfl, Pure.run (bSent _ _ _ _ _ _)]
        -- the sent list grows
        have s6 : SentAt w6 v sent := way5.sn.modT m6 (way5.bus.noT (by decide) (by decide) (by decide) (by decide)) (way5.bus.noT (by decide) (by decide) (by decide) (by decide))
        obtain ⟨es, hes, hso, hek⟩ := (s6.ext e69).h
        refine r_append1 sl31 hso rfl (sent_one (x := ((x.station, x.fr), _)) hok9) (by unfold maxLen; omega) (by omega) fun v10 w10 ho10 g10 => ?_
        have h9 := h6.ext e69
        have m910 : Mod (match v.ownBlock with | some g => [g] | none => []) w9 w10 := Mod.grow g10 (by intro k hk; rw [hk]; simp)
        have hnn : ∀ k ∈ (match v.ownBlock with | some g => [g] | none => ([] : List Nat)), v.ownBlock = some k := by
          intro k hk
          cases hs : v.ownBlock with
          | none => rw [hs] at hk; simp at hk
          | some g => rw [hs] at hk; simp at hk; rw [hk]
        have hTy : ∀ e, 44 ≠ e → NoT w9 e (match v.ownBlock with | some g => [g] | none => ([] : List Nat)) := by
          intro e hne k hk l hb
          obtain ⟨l', hb'⟩ := hso.blk (hnn k hk)
          exact hne (hb'.inj hb).2
        have hnF : ∀ k ∈ foot b gs, k ∉ (match v.ownBlock with | some g => [g] | none => ([] : List Nat)) := by
          intro k hk hk'
          obtain ⟨l', hb'⟩ := hso.blk (hnn k hk')
          exact h9.noT (e := 44) (by decide) (by decide) (by decide) (by decide) k hk _ hb'
        have h10 := h9.mod m910 hnF (hTy _ (by decide)) (hTy _ (by decide)) (hTy _ (by decide)) (hTy _ (by decide)) (hTy _ (by decide))
        have hgood := hg0 h0
        have s10 : SentAt w10 v10 (sent ++ [(x.station, x.fr)]) := ⟨es ++ [((x.station, x.fr), _)], by rw [List.map_append, hes]; rfl, by rw [List.length_append, flat_app]; exact ho10, fun e he => by
          rcases List.mem_append.1 he with he | he
          · exact (hek e he).mod m910 (hTy _ (by decide))
          · simp at he; subst he
            exact hok9.mod m910 (hTy _ (by decide))⟩
        have hvlow := way5.vlow
        have hv10 := g10.low (B := w.heap.size) (x6.trans e69).size hvlow
        have x10 : Ext w w10 := Ext.mod (x6.trans e69) m910 fun k hk => hvlow k (hnn k hk)
        simp only [add_r]
        exact fin t6 ⟨x10, h10, s10, hv10, hgood⟩ (by simp; omega) (by omega) (by rw [send_len]; exact hss)
      · rw [errV_ne h0, show errno (sendP room.toNat ss x.station x.fr).1 = .iface 70 (.int .i64 (sendP room.toNat ss x.station x.fr).1) from rfl, Pure.run (q_nil _ _ _ _), CondP.ff]
        simp only [add_r]
        exact fin t6 (way5.turn hge m6 h6 (hg1 h0)) (by omega) (by omega) (by rw [send_len]; exact hss)
    · rw [decide_eq_false k1, CondP.ff, eql_r]
      by_cases k2 : x.kind = 2
      · rw [decide_eq_true k2, CondP.tt]
        rw [Pure.run (p_field (o := 0) fld40_3), ldN b5 agg38 (o := 0 + 5) rfl]
        refine r_alloc zero38 fun w6 e6 z6 b6 => ?_
        refine r_store size38 (l := wireC x.wire (.slice pv x.wire.flips.length cv)) rfl rfl (all_one rfl) b6 (show 0 + 4 ≤ 4 by decide) fun w7 c7 b7 => ?_
        have b7 : Blk w7 w5.heap.size (wireC x.wire (.slice pv x.wire.flips.length cv)) 38 := b7
        have e57 : Ext w5 w7 := e6.chg c7 (Nat.le_refl _)
        have way7 := way5.step e57
        rw [Pure.run (p_field (o := 0) fld38_3), ld1 b7 one36 (o := 0 + 3) rfl]
        refine GoN.does pl12 (five ((Sub.self w).ext way7.ext) hfv hfl) ?_
        rintro v8 w8 ⟨e8, ho8, hlow8⟩
        have b8 := b7.ext e8
        have hv8 : v8.cells.toList = [v8] ∧ v8.oneCell' = true := by
          obtain ⟨p', c', rfl, _⟩ := ho8.len; exact ⟨rfl, rfl⟩
        rw [Pure.run (p_field (o := 0) fld38_3)]
        refine r_store size36 (l := [v8]) hv8.1 rfl (by intro y hy; simp at hy; subst hy; exact hv8.2) b8 (show 0 + 3 + 1 ≤ 4 by decide) fun w9 c9 b9 => ?_
        have b9 : Blk w9 w5.heap.size (wireC ⟨x.wire.lost, x.wire.twice, x.wire.late, x.wire.flips.take 5⟩ v8) 38 := b9
        have e59 : Ext w5 w9 := (e57.trans e8).chg c9 (Nat.le_refl _)
        have way9 := way5.step e59
        have ho9 : OInts w9 v8 (x.wire.flips.take 5) := ho8.chg c9 (fun he => by have := hlow8 _ he; have := b7.lt; omega)
        rw [ldN b9 agg38 (o := 0) rfl]
        obtain ⟨mm, hm1, hm2, hm3⟩ : ∃ mm : Mem, Sub mm w9 ∧ (∀ k ∈ foot b gs, Off mm k) ∧ Ints mm v8 (x.wire.flips.take 5) := by
          rcases ho9.2 with ⟨rfl, hn0⟩ | ⟨g, cap, ys, rfl, _, _, _, hgb⟩
          · refine ⟨fun _ _ => none, fun b o v hv => (by cases hv), fun k hk o => rfl, ?_⟩
            have : x.wire.flips.take 5 = [] := List.eq_nil_of_length_eq_zero hn0
            rw [this]; exact Sl.nil _ _ _ _ _
          · refine ⟨V.memG w9 g, Sub.memG _ _, fun k hk => Off.memG (fun hh => ?_), ?_⟩
            · subst hh
              exact way9.bus.noT (e := 3) (by decide) (by decide) (by decide) (by decide) k hk _ hgb
            · have ho' := ho9
              unfold OInts at ho'
              rw [ivals_flat] at ho'
              exact ho'.slG rfl (fun _ _ => rfl) (fun _ _ => rfl)
        have hout := way9.good.outOk
        have hfive : (x.wire.flips.take 5).length ≤ 5 := by rw [List.length_take]; omega
        refine GoN.does pl13 (tick (x := ⟨x.wire.lost, x.wire.twice, x.wire.late, x.wire.flips.take 5⟩) way9.bus hN1 hN64 (by omega) (by omega) hout hm1 hm2 hm3 (by show (x.wire.flips.take 5).length ≤ _; omega)) ?_
        rintro _ w10 ⟨m10, h10, rfl⟩
        have way10 := way9.turn hge m10 h10 (way9.good.tick hfive)
        obtain ⟨hl1, hl2⟩ := tick_len room.toNat ss lt ⟨x.wire.lost, x.wire.twice, x.wire.late, x.wire.flips.take 5⟩
        rcases tick_err room.toNat ss lt ⟨x.wire.lost, x.wire.twice, x.wire.late, x.wire.flips.take 5⟩ with he | he
        · rw [he, errV_0, Pure.run (e_nilnil _)]
          simp only [JoinP.eq, PickP.eq, GuardP.yes, GuardP.undef, GuardP.no (show (true == false) = false from rfl), GuardP.no (show (false == true) = false from rfl), CondP.tt, CondP.ff, add_r, sub_r, mul_r, lss_r, leq_r, gtr_r, geq_r, eql_r, neq_r, eqs_r, nes_r, not_r, nil_r, Bool.not_true, Bool.not_false, if_true, if_false, Bool.false_eq_true, decide_true, decide_false, Nat.zero_add, Bool.and_true, Bool.true_and]
          exact fin t6 way10 (by omega) (by omega) (by rw [hl1]; exact hss)
        · rw [he, errV_ne (by decide), show errno 25 = .iface 70 (.int .i64 25) from rfl, Pure.run (e_nil _ _ _ _)]
          simp only [GuardP.yes]
          refine GoN.does pl9 (num 25 w10 (by decide) (by decide)) ?_
          rintro _ w11 ⟨rfl, e11⟩
          rw [neq_r, show (!decide ((25 : Int) = 25)) = false from rfl]
          simp only [JoinP.eq, PickP.eq, GuardP.yes, GuardP.undef, GuardP.no (show (true == false) = false from rfl), GuardP.no (show (false == true) = false from rfl), CondP.tt, CondP.ff, add_r, sub_r, mul_r, lss_r, leq_r, gtr_r, geq_r, eql_r, neq_r, eqs_r, nes_r, not_r, nil_r, Bool.not_true, Bool.not_false, if_true, if_false, Bool.false_eq_true, decide_true, decide_false, Nat.zero_add, Bool.and_true, Bool.true_and]
          exact fin t6 (way10.step e11) (by omega) (by omega) (by rw [hl1]; exact hss)
      · rw [decide_eq_false k2, CondP.ff, eql_r]
        by_cases k3 : x.kind = 3
        · rw [decide_eq_true k3, CondP.tt]
          rw [Pure.run (p_field (o := 0) fld40_1), ld1 b5 one3 (o := 0 + 1) rfl]
          refine GoN.does pl14 (takeB (n := x.station) way5.bus hN64) ?_
          rintro r w6 ⟨m6, h6, hv⟩
          obtain ⟨hg1, hg2⟩ := way5.good.take (n := x.station)
          have way6 := way5.turn hge m6 h6 hg1
          have b6 := b5.mod m6 hnf
          cases ht : (takeP ss x.station).1 with
          | inl e =>
            rw [ht] at hv
            subst hv
            rw [Pure.run (x2_0 _ _), Pure.run (x2_1 _ _)]
            refine r_alloc zero35 fun w7 e7 z7 b7 => ?_
            refine r_store size35 (l := frC DFr.zero (.slice none 0 0)) rfl rfl (all_one rfl) b7 (show 0 + 3 ≤ 3 by decide) fun w8 c8 b8 => ?_
            rw [show errno e = .iface 70 (.int .i64 e) from rfl, Pure.run (q_nil _ _ _ _)]
            simp only [JoinP.eq, PickP.eq, GuardP.yes, GuardP.undef, GuardP.no (show (true == false) = false from rfl), GuardP.no (show (false == true) = false from rfl), CondP.tt, CondP.ff, add_r, sub_r, mul_r, lss_r, leq_r, gtr_r, geq_r, eql_r, neq_r, eqs_r, nes_r, not_r, nil_r, Bool.not_true, Bool.not_false, if_true, if_false, Bool.false_eq_true, decide_true, decide_false, Nat.zero_add, Bool.and_true, Bool.true_and]
            exact fin t6 (way6.step (e7.chg c8 (Nat.le_refl _))) (by omega) (by omega) (by rw [take_len]; exact hss)
          | inr f =>
            rw [ht] at hv
            obtain ⟨v6, rfl, hok6⟩ := hv
            rw [Pure.run (x2_0 _ _), Pure.run (x2_1 _ _)]
            refine r_alloc zero35 fun w7 e7 z7 b7 => ?_
            refine r_store size35 (l := frC f v6) rfl rfl (ent_one hok6) b7 (show 0 + 3 ≤ 3 by decide) fun w8 c8 b8 => ?_
            have b8 : Blk w8 w6.heap.size (frC f v6) 35 := b8
            have e68 : Ext w6 w8 := e7.chg c8 (Nat.le_refl _)
            have way8 := way6.step e68
            rw [Pure.run (q_nilnil _)]
            simp only [GuardP.yes]
            rw [Pure.run (p_field (o := 0) fld40_1), ld1 (b6.ext e68) one3 (o := 0 + 1) rfl, ldN b8 agg35 (o := 0) rfl]
            refine GoN.does pl15 (among (n := x.station) way8.sn (by omega) (hok6.mod (Mod.ext (S := []) e68) (.nil _ _))) ?_
            rintro _ w9 ⟨e9, rfl⟩
            rw [hg2 f ht]
            simp only [JoinP.eq, PickP.eq, GuardP.yes, GuardP.undef, GuardP.no (show (true == false) = false from rfl), GuardP.no (show (false == true) = false from rfl), CondP.tt, CondP.ff, add_r, sub_r, mul_r, lss_r, leq_r, gtr_r, geq_r, eql_r, neq_r, eqs_r, nes_r, not_r, nil_r, Bool.not_true, Bool.not_false, if_true, if_false, Bool.false_eq_true, decide_true, decide_false, Nat.zero_add, Bool.and_true, Bool.true_and]
            exact fin t6 (way8.step e9) (by omega) (by omega) (by rw [take_len]; exact hss)
        · rw [decide_eq_false k3, CondP.ff]
          simp only [add_r]
          exact fin t6 way5 (by omega) (by omega) hss
  · -- what is left in the rows
    have hN64' := hN64
    try simp only [JoinP.eq]
    refine LoopP.of2 (fun _ i w' => ∃ (k : Nat) (ss : List PS), k ≤ ll.length ∧ i = .int .i64 k ∧ Way w w' b room.toNat gs ss lt sent v) (fun _ i _ => ll.length - (intOf i).toNat) ⟨0, _, Nat.zero_le _, rfl, way⟩ ?_
    rintro t6 _ w4 ⟨k2, ss2, hk2, rfl, way4⟩
    try simp only [Pure.run (p_len sl22.slice), lss_r]
    refine CondP.dec (fun hlt2 => ?_) (fun hlt2 => ?_)
    · try simp only [JoinP.eq]
      refine LoopP.of2 (fun _ i w' => ∃ (j : Nat) (ss : List PS), j ≤ 64 ∧ i = .int .i64 j ∧ Way w w' b room.toNat gs ss lt sent v) (fun _ i _ => 64 - (intOf i).toNat) ⟨0, _, Nat.zero_le _, rfl, way4⟩ ?_
      rintro t7 _ w5 ⟨j, ss5, hj, rfl, way5⟩
      simp only [lss_r]
      refine CondP.dec (fun hlt3 => ?_) (fun hlt3 => ?_)
      · try simp only [JoinP.eq]
        have fin : ∀ {w' : World} {ss' : List PS}, Way w w' b room.toNat gs ss' lt sent v →
            (∃ (k_1 : Nat) (ss : List PS), k_1 ≤ 64 ∧ Value.int .i64 (IntKind.i64.wrap ((j : Int) + 1)) = .int .i64 (k_1 : Nat) ∧ Way w w' b room.toNat gs ss lt sent v) ∧
            64 - (intOf (Value.int .i64 (IntKind.i64.wrap ((j : Int) + 1)))).toNat < 64 - (intOf (.int .i64 (j : Int))).toNat := by
          intro w' ss' h1
          refine ⟨⟨j + 1, ss', by omega, succ64 (by omega), h1⟩, ?_⟩
          rw [succ64 (by omega)]; simp [intOf]; omega
        refine GoN.does pl14 (takeB (n := (k2 : Int)) way5.bus hN64) ?_
        rintro r w6 ⟨m6, h6, hv⟩
        obtain ⟨hg1, hg2⟩ := way5.good.take (n := (k2 : Int))
        have way6 := way5.turn hge m6 h6 hg1
        cases ht : (takeP ss5 (k2 : Int)).1 with
        | inl e =>
          rw [ht] at hv
          subst hv
          rw [Pure.run (x2_0 _ _), Pure.run (x2_1 _ _)]
          refine r_alloc zero35 fun w7 e7 z7 b7 => ?_
          refine r_store size35 (l := frC DFr.zero (.slice none 0 0)) rfl rfl (all_one rfl) b7 (show 0 + 3 ≤ 3 by decide) fun w8 c8 b8 => ?_
          rw [show errno e = .iface 70 (.int .i64 e) from rfl, Pure.run (q_nil _ _ _ _)]
          simp only [JoinP.eq, PickP.eq, GuardP.yes, GuardP.undef, GuardP.no (show (true == false) = false from rfl), GuardP.no (show (false == true) = false from rfl), CondP.tt, CondP.ff, add_r, sub_r, mul_r, lss_r, leq_r, gtr_r, geq_r, eql_r, neq_r, eqs_r, nes_r, not_r, nil_r, Bool.not_true, Bool.not_false, if_true, if_false, Bool.false_eq_true, decide_true, decide_false, Nat.zero_add, Bool.and_true, Bool.true_and]
          exact fin (way6.step (e7.chg c8 (Nat.le_refl _)))
        | inr f =>
          rw [ht] at hv
          obtain ⟨v6, rfl, hok6⟩ := hv
          rw [Pure.run (x2_0 _ _), Pure.run (x2_1 _ _)]
          refine r_alloc zero35 fun w7 e7 z7 b7 => ?_
          refine r_store size35 (l := frC f v6) rfl rfl (ent_one hok6) b7 (show 0 + 3 ≤ 3 by decide) fun w8 c8 b8 => ?_
          have b8 : Blk w8 w6.heap.size (frC f v6) 35 := b8
          have e68 : Ext w6 w8 := e7.chg c8 (Nat.le_refl _)
          have way8 := way6.step e68
          rw [Pure.run (q_nilnil _)]
          simp only [GuardP.yes]
          rw [ldN b8 agg35 (o := 0) rfl]
          refine GoN.does pl15 (among (n := (k2 : Int)) way8.sn (by omega) (hok6.mod (Mod.ext (S := []) e68) (.nil _ _))) ?_
          rintro _ w9 ⟨e9, rfl⟩
          rw [hg2 f ht]
          simp only [JoinP.eq, PickP.eq, GuardP.yes, GuardP.undef, GuardP.no (show (true == false) = false from rfl), GuardP.no (show (false == true) = false from rfl), CondP.tt, CondP.ff, add_r, sub_r, mul_r, lss_r, leq_r, gtr_r, geq_r, eql_r, neq_r, eqs_r, nes_r, not_r, nil_r, Bool.not_true, Bool.not_false, if_true, if_false, Bool.false_eq_true, decide_true, decide_false, Nat.zero_add, Bool.and_true, Bool.true_and]
          exact fin (way8.step e9)
      · try simp only [add_r]
        refine ⟨⟨k2 + 1, ss5, by omega, succ64 (by omega), way5⟩, ?_⟩
        rw [succ64 (by omega)]; simp [intOf]; omega
    · exact ⟨way4.ext, by first | rfl | trivial⟩
end Go.Proofs.Ytfdjkdiebabimaa.Sh
