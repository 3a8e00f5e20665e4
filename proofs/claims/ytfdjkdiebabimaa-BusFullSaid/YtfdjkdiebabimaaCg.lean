/- What is told, what comes, whose frame goes first. Conditions: lengths up to 2^30. -/
import Derived.Test.YtfdjkdiebabimaaCf
set_option linter.unusedVariables false
set_option linter.unusedSimpArgs false
set_option maxRecDepth 10000
namespace Go.Proofs.Ytfdjkdiebabimaa.Sh
open Go Go.V Go.RowKit Go.Proofs.Ytfdjkdiebabimaa.Bp

structure CoreR (b N : Nat) (gs : List SG) (sv lv : Value) (ss : List PS) (w w' : World) : Prop where
  mod : Mod (foot b gs) w w'
  core : Core w' b N gs sv lv ss
theorem tell {w : World} {b N : Nat} {gs : List SG} {sv lv : Value} {ss : List PS} {src : Int} {r : Option DFr} {fr err : Value} (h : Core w b N gs sv lv ss) (h1 : 1 ≤ N) (h64 : N ≤ 64) (hl : ss.length ≤ 1073741824) (hA : HearA w r fr err) :
    Does Try.prog 46 [ptr b, .int .i64 src, fr, err] w fun _ w' => CoreR b N gs sv lv (tellP N src r ss) w w' := by
  refine D46 ?_
  unfold S46
  refine r_box fun w1 e1 z1 b1 => ?_
  have c1 := h.ext e1
  rw [nil_r, Pure.run (p_field (o := 0) fld74_0), ld1 c1.blk one71 (o := 0 + 0) rfl]
  obtain ⟨ps, cs, hsv, _⟩ := h.own.len
  have hln : Run Try.prog (Builtin.len_ #[71] 3 #[sv]) w1 = fun K => K (.int .i64 (gs.length : Int)) w1 := by
    funext K; rw [hsv]; exact Pure.run (p_len sl71.slice)
  rw [hln]
  simp only [JoinP.eq]
  have hfr : ∃ f v, fr = frA f v := by
    cases r with
    | none => exact ⟨_, _, hA.1⟩
    | some f => obtain ⟨v, h, _⟩ := hA; exact ⟨f, v, h⟩
  obtain ⟨f0, v0, hfe⟩ := hfr
  have b1 : Blk w1 w.heap.size (frC f0 v0) 35 := by rw [hfe] at b1; exact b1
  have hA1 := hA.mod (Mod.ext (S := []) e1) (.nil _ _)
  have hnt : ∀ {e : TypeId}, 74 ≠ e → 35 ≠ e → 99 ≠ e → 81 ≠ e → NoT w1 e (foot b gs) := fun a b c d => c1.noT a b c d
  refine LoopP.of1 (fun i w' => ∃ k : Nat, k ≤ ss.length ∧ i = .int .i64 k ∧ Mod (foot b gs) w1 w' ∧ Core w' b N gs sv lv (tellTo N src r ss k)) (fun i _ => ss.length - (intOf i).toNat) ⟨0, Nat.zero_le _, rfl, Mod.refl _ _, c1⟩ ?_
  rintro _ w2 ⟨k, hk, rfl, m2, c2⟩
  simp only [lss_r, h.len]
  refine CondP.dec (fun h => ?_) (fun h => ?_)
  · have hk' : k < ss.length := by omega
    try simp only [JoinP.eq]
    obtain ⟨a, ha, hst⟩ := c2.get (i := k) (by rw [tellTo_len]; exact hk')
    have hget : (tellTo N src r ss k)[k]? = ss[k]? := by
      rw [tellTo_get, List.getElem?_eq_getElem hk']
      simp
    have hgk : (tellTo N src r ss k)[k]'(by rw [tellTo_len]; exact hk') = ss[k] := by
      have := hget
      rw [List.getElem?_eq_getElem (by rw [tellTo_len]; exact hk'), List.getElem?_eq_getElem hk'] at this
      injection this
    rw [hgk] at hst
    refine r_st c2.own ha rfl ?_
    rw [Pure.run (iSt _), neq_r]
    by_cases hs : (k : Int) = src
    · rw [decide_eq_true hs, Bool.not_true, CondP.ff]
      simp only [add_r]
      have hP : tellTo N src r ss (k + 1) = tellTo N src r ss k := by rw [tellTo, if_pos hs]
      refine ⟨⟨k + 1, by omega, succ64 (by omega), m2, by rw [hP]; exact c2⟩, ?_⟩
      rw [succ64 (by omega)]; simp [intOf]; omega
    · rw [decide_eq_false hs, Bool.not_false, CondP.tt]
      have b2 : Blk w2 w.heap.size (frC f0 v0) 35 := b1.mod m2 fun hk => by have := c1.lt _ hk; have := hk; have h3 := (Core.lt ‹Core w b N gs sv lv ss›) _ hk; omega
      rw [ldN b2 agg35 (o := 0) rfl]
      have hA2 := hA1.mod m2 (hnt (by decide) (by decide) (by decide) (by decide))
      rw [hfe] at hA2
      refine GoN.enter (mHear _ _ _ _) (hear hst h1 h64 hA2) ?_
      rintro _ w3 ⟨m3, st3⟩
      have hP : tellTo N src r ss (k + 1) = (tellTo N src r ss k).set k (hearP N r ss[k]) := by rw [tellTo, if_neg hs, List.getElem?_eq_getElem hk']
      obtain ⟨c3, mf3⟩ := c2.upd ha (by rw [tellTo_len]; exact hk') m3 st3
      simp only [add_r]
      refine ⟨⟨k + 1, by omega, succ64 (by omega), m2.trans mf3, by rw [hP]; exact c3⟩, ?_⟩
      rw [succ64 (by omega)]; simp [intOf]; omega
  · have hk' : k = ss.length := by omega
    subst hk'
    exact ⟨(Mod.ext e1).trans m2, c2⟩
/-- What comes is decoded and told. -/
def comesP (N : Nat) (x : DLate) (ss : List PS) : List PS :=
  if x.twice then tellP N x.src (decodeP (wireP x.bits)) (tellP N x.src (decodeP (wireP x.bits)) ss) else tellP N x.src (decodeP (wireP x.bits)) ss
theorem tellP_len (N : Nat) (src : Int) (r : Option DFr) (ss : List PS) : (tellP N src r ss).length = ss.length := tellTo_len _ _ _ _ _
theorem comesP_len (N : Nat) (x : DLate) (ss : List PS) : (comesP N x ss).length = ss.length := by
  unfold comesP
  split
  · rw [tellP_len, tellP_len]
  · rw [tellP_len]
abbrev lateA (x : LEnt) : Value := .agg (lateC x).toArray
theorem comes {w : World} {b N : Nat} {gs : List SG} {sv lv : Value} {ss : List PS} {x : LEnt} (h : Core w b N gs sv lv ss) (h1 : 1 ≤ N) (h64 : N ≤ 64) (hl : ss.length ≤ 1073741824) (hx : LateOk w x) :
    Does Try.prog 33 [ptr b, lateA x] w fun _ w' => CoreR b N gs sv lv (comesP N x.1 ss) w w' := by
  obtain ⟨⟨src, bits, twice, wait⟩, u⟩ := x
  have hbl := hx.len
  have hwl := wire_len bits
  simp only at hbl
  refine D33 ?_
  unfold S33
  refine r_box fun w1 e1 z1 b1 => ?_
  have b1 : Blk w1 w.heap.size (lateC (⟨src, bits, twice, wait⟩, u)) 91 := b1
  rw [Pure.run (p_field (o := 0) fld91_1), ld1 b1 one52 (o := 0 + 1) rfl]
  refine GoN.does pl36 (wire ((Sub.self w).ext e1) hx.own.bits hbl) ?_
  rintro u2 w2 ⟨ho2, e2, _⟩
  refine GoN.does pl45 (decode (Sub.self w2) ho2.bits (by show (wireP bits).length ≤ _; omega)) ?_
  rintro r w3 ⟨e3, hr⟩
  have e13 := e2.trans e3
  have e03 := e1.trans e13
  have hl3 := h.lt
  have b13 := b1.ext e13
  have key : ∀ (fr err : Value), r = .tuple #[fr, err] → HearA w3 (decodeP (wireP bits)) fr err → (∃ f v, fr = frA f v ∧ v.cells.toList = [v] ∧ v.oneCell' = true) →
      Run Try.prog (Instr.extract r 0) w3 fun t11 w6 => Run Try.prog (Instr.extract r 1) w6 fun t12 w7 =>
      Run Try.prog (Instr.alloc 35 true (.tuple #[])) w7 fun f_4 w8 => RunU Try.prog (Instr.storeAt 35 f_4 t11) w8 fun w9 =>
      Run Try.prog (Instr.fieldAt 91 (ptr w.heap.size) 0) w9 fun t14 w10 => Run Try.prog (Instr.loadAt 3 t14) w10 fun t15 w11 => Run Try.prog (Instr.loadAt 35 f_4) w11 fun t16 w12 =>
      GoN Try.prog (callFunc 46 #[ptr b, t15, t16, t12]) w12 fun t18 w13 =>
      Run Try.prog (Instr.fieldAt 91 (ptr w.heap.size) 2) w13 fun t19 w14 => Run Try.prog (Instr.loadAt 4 t19) w14 fun t20 w15 =>
      CondP t20 0 (fun (k1 : N0) =>
        Run Try.prog (Instr.fieldAt 91 (ptr w.heap.size) 0) w15 fun t22 w16 => Run Try.prog (Instr.loadAt 3 t22) w16 fun t23 w17 => Run Try.prog (Instr.loadAt 35 f_4) w17 fun t24 w18 =>
        GoN Try.prog (callFunc 46 #[ptr b, t23, t24, t12]) w18 fun t26 w19 => k1 w19)
      (fun (k2 : N0) => k2 w15) (fun (w20 : World) => CoreR b N gs sv lv (comesP N ⟨src, bits, twice, wait⟩ ss) w w20) := by
    rintro fr err rfl hA ⟨f0, v0, rfl, hv1, hv2⟩
    rw [Pure.run (x2_0 _ _), Pure.run (x2_1 _ _)]
    refine r_alloc zero35 fun w4 e4 z4 b4 => ?_
    refine r_store size35 (l := frC f0 v0) rfl rfl (by
      intro y hy
      simp [frC] at hy
      rcases hy with rfl | rfl | rfl
      · rfl
      · rfl
      · exact hv2) b4 (show 0 + 3 ≤ 3 by decide) fun w5 c5 b5 => ?_
    have b5 : Blk w5 w3.heap.size (frC f0 v0) 35 := b5
    have e35 : Ext w3 w5 := e4.chg c5 (Nat.le_refl _)
    have b15 := b13.ext e35
    have c5' := h.ext (e03.trans e35)
    rw [Pure.run (p_field (o := 0) fld91_0), ld1 b15 one3 (o := 0 + 0) rfl, ldN b5 agg35 (o := 0) rfl]
    have hA5 := hA.mod (Mod.ext (S := []) e35) (.nil _ _)
    refine GoN.does pl46 (tell c5' h1 h64 hl hA5) ?_
    rintro _ w6 ⟨m6, c6⟩
    have hn1 : w.heap.size ∉ foot b gs := fun hk => by have := hl3 _ hk; omega
    have hn2 : w3.heap.size ∉ foot b gs := fun hk => by have := hl3 _ hk; have := e03.size; omega
    have b16 := b15.mod m6 hn1
    have b56 := b5.mod m6 hn2
    rw [Pure.run (p_field (o := 0) fld91_2), ld1 b16 one4 (o := 0 + 2) rfl]
    have m06 : Mod (foot b gs) w w6 := (Mod.ext (e03.trans e35)).trans m6
    refine CondP.of (fun ht => ?_) (fun ht => ?_)
    · rw [Pure.run (p_field (o := 0) fld91_0), ld1 b16 one3 (o := 0 + 0) rfl, ldN b56 agg35 (o := 0) rfl]
      have hA6 := hA5.mod m6 (c5'.noT (by decide) (by decide) (by decide) (by decide))
      refine GoN.does pl46 (tell c6 h1 h64 (by rw [tellP_len]; exact hl) hA6) ?_
      rintro _ w7 ⟨m7, c7⟩
      refine ⟨m06.trans m7, ?_⟩
      unfold comesP
      simp only at ht
      simp only [ht, if_true]
      exact c7
    · refine ⟨m06, ?_⟩
      unfold comesP
      simp only at ht
      simp only [ht, Bool.false_eq_true, if_false]
      exact c6
  cases hd : decodeP (wireP bits) with
  | none =>
    rw [hd] at hr key
    obtain ⟨t, a, rfl⟩ := hr
    exact key _ _ rfl ⟨rfl, t, a, rfl⟩ ⟨_, _, rfl, rfl, rfl⟩
  | some f =>
    rw [hd] at hr key
    obtain ⟨v, rfl, ho, hlow, hin⟩ := hr
    refine key _ _ rfl ⟨v, rfl, rfl, ho, hin⟩ ⟨_, _, rfl, ?_⟩
    obtain ⟨p', c', rfl, _⟩ := ho.len
    exact ⟨rfl, rfl⟩
/-! Whose frame goes first. -/
def firstStep (acc : Option (Nat × DFr)) (i : Nat) (s : PS) : Option (Nat × DFr) :=
  match s.out with
  | [] => acc
  | f :: _ =>
    match acc with
    | none => some (i, f)
    | some (j, g) => if ordP f < ordP g then some (i, f) else some (j, g)
def firstTo (ss : List PS) : Nat → Option (Nat × DFr)
  | 0 => none
  | k + 1 => match ss[k]? with
    | some s => firstStep (firstTo ss k) k s
    | none => firstTo ss k
def firstP (ss : List PS) : Option (Nat × DFr) := firstTo ss ss.length
/-- The one that goes first: its station has it first. -/
theorem firstTo_get (ss : List PS) : ∀ (k : Nat) {j : Nat} {f : DFr}, firstTo ss k = some (j, f) → ∃ s q, ss[j]? = some s ∧ s.out = f :: q
  | 0, j, f, h => by cases h
  | k + 1, j, f, h => by
    unfold firstTo at h
    split at h
    · rename_i s hs
      unfold firstStep at h
      split at h
      · exact firstTo_get ss k h
      · rename_i g q ho
        split at h
        · injection h with h; injection h with h1 h2; subst h1; subst h2; exact ⟨s, q, hs, ho⟩
        · split at h
          · injection h with h; injection h with h1 h2; subst h1; subst h2; exact ⟨s, q, hs, ho⟩
          · rename_i ha _
            exact firstTo_get ss k (ha.trans h)
    · exact firstTo_get ss k h
def atV (acc : Option (Nat × DFr)) : Int := match acc with | none => -1 | some (j, _) => j
/-- The best one as it lies in memory. -/
abbrev BestV (acc : Option (Nat × DFr)) (w : World) (b : Nat) : Prop := match acc with
  | none => ∃ v, Blk w b (frC DFr.zero v) 35 ∧ v = .slice none 0 0
  | some (_, f) => ∃ v, Blk w b (frC f v) 35 ∧ EntOk w (f, v)
structure FirstR (acc : Option (Nat × DFr)) (w : World) (r : Value) (w' : World) : Prop where
  ext : Ext w w'
  val : match acc with
    | none => r = .tuple #[.int .i64 (-1), frA DFr.zero (.slice none 0 0)]
    | some (j, f) => ∃ v, r = .tuple #[.int .i64 (j : Int), frA f v] ∧ EntOk w' (f, v)
theorem first {w : World} {b N : Nat} {gs : List SG} {sv lv : Value} {ss : List PS} (h : Core w b N gs sv lv ss) (h64 : N ≤ 64) (hl : ss.length ≤ 1073741824) :
    Does Try.prog 31 [ptr b] w (FirstR (firstP ss) w) := by
  refine D31 ?_
  unfold S31
  refine r_alloc zero35 fun w1 e1 z1 b1 => ?_
  rw [Pure.run bFr0]
  refine r_alloc zero35 fun w2 e2 z2 b2 => ?_
  refine r_store size35 (l := frC DFr.zero (.slice none 0 0)) rfl rfl (all_one rfl) b2 (show 0 + 3 ≤ 3 by decide) fun w3 c3 b3 => ?_
  have b3 : Blk w3 w1.heap.size (frC DFr.zero (.slice none 0 0)) 35 := b3
  have e13 : Ext w1 w3 := e2.chg c3 (Nat.le_refl _)
  have e03 := e1.trans e13
  have c3' := h.ext e03
  rw [nil_r, Pure.run (p_field (o := 0) fld74_0), ld1 c3'.blk one71 (o := 0 + 0) rfl]
  obtain ⟨ps, cs, hsv, _⟩ := h.own.len
  have hln : Run Try.prog (Builtin.len_ #[71] 3 #[sv]) w3 = fun K => K (.int .i64 (gs.length : Int)) w3 := by
    funext K; rw [hsv]; exact Pure.run (p_len sl71.slice)
  rw [hln]
  simp only [JoinP.eq]
  have hlen := h.len
  refine LoopP.of2 (fun av i w' => ∃ k : Nat, k ≤ ss.length ∧ i = .int .i64 k ∧ av = .int .i64 (atV (firstTo ss k)) ∧ Ext w1 w' ∧ BestV (firstTo ss k) w' w1.heap.size) (fun _ i _ => ss.length - (intOf i).toNat) ⟨0, Nat.zero_le _, rfl, rfl, e13, ⟨_, b3, rfl⟩⟩ ?_
  rintro _ _ w4 ⟨k, hk, rfl, rfl, e14, hbest⟩
  simp only [lss_r, hlen]
  refine CondP.dec (fun hlt => ?_) (fun hlt => ?_)
  · have hk' : k < ss.length := by omega
    have e04 := e1.trans e14
    have c4 := h.ext e04
    obtain ⟨a, ha, hst⟩ := c4.get hk'
    obtain ⟨rv, hbs, _⟩ := hst.h
    try simp only [JoinP.eq]
    refine r_st c4.own ha rfl ?_
    rw [nil_r, Pure.run (p_field (o := 0) fld81_0), ld1 hbs one75 (o := 0 + 0) rfl]
    refine GoN.does pl44 (peek hst.o h64) ?_
    rintro r w5 ⟨e5, hr⟩
    have hsk : ss[k]? = some ss[k] := List.getElem?_eq_getElem hk'
    have hstep : firstTo ss (k + 1) = firstStep (firstTo ss k) k ss[k] := by rw [firstTo, hsk]
    have bestE : ∀ {acc : Option (Nat × DFr)} {w w' : World} {b : Nat}, BestV acc w b → Ext w w' → BestV acc w' b := by
      intro acc w w' b hb e
      cases acc with
      | none => obtain ⟨v, h1, h2⟩ := hb; exact ⟨v, h1.ext e, h2⟩
      | some p => obtain ⟨v, h1, h2⟩ := hb; exact ⟨v, h1.ext e, h2.mod (Mod.ext (S := []) e) (.nil _ _)⟩
    have fin : ∀ {av : Value} {w' : World}, av = .int .i64 (atV (firstTo ss (k + 1))) → Ext w1 w' → BestV (firstTo ss (k + 1)) w' w1.heap.size →
        (∃ k_1 : Nat, k_1 ≤ ss.length ∧ Value.int .i64 (IntKind.i64.wrap ((k : Int) + 1)) = .int .i64 (k_1 : Nat) ∧ av = .int .i64 (atV (firstTo ss k_1)) ∧ Ext w1 w' ∧ BestV (firstTo ss k_1) w' w1.heap.size) ∧
        ss.length - (intOf (Value.int .i64 (IntKind.i64.wrap ((k : Int) + 1)))).toNat < ss.length - (intOf (.int .i64 (k : Int))).toNat := by
      intro av w' f1 f2 f3
      refine ⟨⟨k + 1, by omega, succ64 (by omega), f1, f2, f3⟩, ?_⟩
      rw [succ64 (by omega)]; simp [intOf]; omega
    have frOne : ∀ {f : DFr} {v : Value}, (∃ p n c, v = .slice p n c) → ∀ u ∈ frC f v, u.oneCell' = true := by
      rintro f v ⟨p, n, c, rfl⟩
      exact all_one rfl
    have hov : ∀ {w : World} {f : DFr} {v : Value}, EntOk w (f, v) → ∃ p n c, v = .slice p n c := by
      intro w f v h
      obtain ⟨p, c, h, _⟩ := h.own.len
      exact ⟨p, _, c, h⟩
    cases ho : ss[k].out with
    | nil =>
      rw [ho] at hr
      subst hr
      rw [Pure.run (x2_0 _ _), Pure.run (x2_1 _ _)]
      refine r_alloc zero35 fun w6 e6 z6 b6 => ?_
      refine r_store size35 (l := frC DFr.zero (.slice none 0 0)) rfl rfl (all_one rfl) b6 (show 0 + 3 ≤ 3 by decide) fun w7 c7 b7 => ?_
      have e57 : Ext w5 w7 := e6.chg c7 (Nat.le_refl _)
      have hs1 : firstTo ss (k + 1) = firstTo ss k := by rw [hstep]; unfold firstStep; rw [ho]
      simp only [JoinP.eq, PickP.eq, GuardP.yes, GuardP.undef, GuardP.no (show (true == false) = false from rfl), GuardP.no (show (false == true) = false from rfl), CondP.tt, CondP.ff, add_r, sub_r, mul_r, lss_r, leq_r, gtr_r, geq_r, eql_r, neq_r, eqs_r, nes_r, not_r, nil_r, Bool.not_true, Bool.not_false, if_true, if_false, Bool.false_eq_true, decide_true, decide_false, Nat.zero_add, Bool.and_true, Bool.true_and]
      exact fin (by rw [hs1]) (e14.trans (e5.trans e57)) (by rw [hs1]; exact bestE hbest (e5.trans e57))
    | cons f q =>
      rw [ho] at hr
      obtain ⟨v, rfl, hok⟩ := hr
      rw [Pure.run (x2_0 _ _), Pure.run (x2_1 _ _)]
      refine r_alloc zero35 fun w6 e6 z6 b6 => ?_
      refine r_store size35 (l := frC f v) rfl rfl (ent_one hok) b6 (show 0 + 3 ≤ 3 by decide) fun w7 c7 b7 => ?_
      have b7 : Blk w7 w5.heap.size (frC f v) 35 := b7
      have e57 : Ext w5 w7 := e6.chg c7 (Nat.le_refl _)
      have hok7 := hok.mod (Mod.ext (S := []) e57) (.nil _ _)
      have e47 := e5.trans e57
      have hbest7 := bestE hbest e47
      have hne : w5.heap.size ≠ w1.heap.size := by
        have h1 : w1.heap.size < w4.heap.size := by
          cases hac : firstTo ss k with
          | none => rw [hac] at hbest; obtain ⟨v, hb, _⟩ := hbest; exact hb.lt
          | some p => rw [hac] at hbest; obtain ⟨v, hb, _⟩ := hbest; exact hb.lt
        have := e5.size; omega
      -- the new one is stored
      have put : ∀ {w8 : World}, Ext w7 w8 → BestV (firstTo ss k) w8 w1.heap.size → firstTo ss (k + 1) = some (k, f) →
          ∀ w9, Ext w8 w9 → RunQ Try.prog (Instr.loadAt 35 (ptr w5.heap.size)) w9 fun t40 => RunU Try.prog (Instr.storeAt 35 (ptr w1.heap.size) t40) w9 fun w10 =>
            (∃ k_1 : Nat, k_1 ≤ ss.length ∧ Value.int .i64 (IntKind.i64.wrap ((k : Int) + 1)) = .int .i64 (k_1 : Nat) ∧ Value.int .i64 (k : Int) = .int .i64 (atV (firstTo ss k_1)) ∧ Ext w1 w10 ∧ BestV (firstTo ss k_1) w10 w1.heap.size) ∧
            ss.length - (intOf (Value.int .i64 (IntKind.i64.wrap ((k : Int) + 1)))).toNat < ss.length - (intOf (.int .i64 (k : Int))).toNat := by
        intro w8 e8 hb8 hs1 w9 e9
        have e79 := e8.trans e9
        have b79 := b7.ext e79
        rw [ldNQ b79 agg35 (o := 0) rfl]
        have hb9 := bestE hb8 e9
        have hok9 := hok7.mod (Mod.ext (S := []) e79) (.nil _ _)
        have hbb : ∃ g u, Blk w9 w1.heap.size (frC g u) 35 := by
          cases hac : firstTo ss k with
          | none => rw [hac] at hb9; obtain ⟨v, hb, _⟩ := hb9; exact ⟨_, _, hb⟩
          | some p => rw [hac] at hb9; obtain ⟨v, hb, _⟩ := hb9; exact ⟨_, _, hb⟩
        obtain ⟨g, u, hb⟩ := hbb
        refine r_store size35 (l := frC f v) rfl rfl (ent_one hok) hb (show 0 + 3 ≤ 3 by decide) fun w10 c10 b10 => ?_
        have b10 : Blk w10 w1.heap.size (frC f v) 35 := b10
        refine fin (by rw [hs1]; rfl) ((e14.trans (e47.trans e79)).chg c10 (Nat.le_refl _)) ?_
        rw [hs1]
        exact ⟨v, b10, hok9.mod (Mod.one c10) (.one hb (by decide))⟩
      cases hac : firstTo ss k with
      | none =>
        have hs1 : firstTo ss (k + 1) = some (k, f) := by rw [hstep]; unfold firstStep; rw [ho, hac]
        simp only [JoinP.eq, PickP.eq, GuardP.yes, GuardP.undef, GuardP.no (show (true == false) = false from rfl), GuardP.no (show (false == true) = false from rfl), CondP.tt, CondP.ff, add_r, sub_r, mul_r, lss_r, leq_r, gtr_r, geq_r, eql_r, neq_r, eqs_r, nes_r, not_r, nil_r, Bool.not_true, Bool.not_false, if_true, if_false, Bool.false_eq_true, decide_true, decide_false, Nat.zero_add, Bool.and_true, Bool.true_and]
        rw [show decide (atV none < 0) = true from rfl]
        simp only [JoinP.eq, PickP.eq, GuardP.yes, GuardP.undef, GuardP.no (show (true == false) = false from rfl), GuardP.no (show (false == true) = false from rfl), CondP.tt, CondP.ff, add_r, sub_r, mul_r, lss_r, leq_r, gtr_r, geq_r, eql_r, neq_r, eqs_r, nes_r, not_r, nil_r, Bool.not_true, Bool.not_false, if_true, if_false, Bool.false_eq_true, decide_true, decide_false, Nat.zero_add, Bool.and_true, Bool.true_and]
        intro w8 e8
        exact put (Ext.refl _) hbest7 hs1 w8 e8
      | some p =>
        obtain ⟨j, g⟩ := p
        rw [hac] at hbest7
        obtain ⟨u, hbg, hokg⟩ := hbest7
        simp only [JoinP.eq, PickP.eq, GuardP.yes, GuardP.undef, GuardP.no (show (true == false) = false from rfl), GuardP.no (show (false == true) = false from rfl), CondP.tt, CondP.ff, add_r, sub_r, mul_r, lss_r, leq_r, gtr_r, geq_r, eql_r, neq_r, eqs_r, nes_r, not_r, nil_r, Bool.not_true, Bool.not_false, if_true, if_false, Bool.false_eq_true, decide_true, decide_false, Nat.zero_add, Bool.and_true, Bool.true_and]
        rw [show decide (atV (some (j, g)) < 0) = false from decide_eq_false (by show ¬ ((j : Int) < 0); omega)]
        simp only [JoinP.eq, PickP.eq, GuardP.yes, GuardP.undef, GuardP.no (show (true == false) = false from rfl), GuardP.no (show (false == true) = false from rfl), CondP.tt, CondP.ff, add_r, sub_r, mul_r, lss_r, leq_r, gtr_r, geq_r, eql_r, neq_r, eqs_r, nes_r, not_r, nil_r, Bool.not_true, Bool.not_false, if_true, if_false, Bool.false_eq_true, decide_true, decide_false, Nat.zero_add, Bool.and_true, Bool.true_and]
        rw [ldN b7 agg35 (o := 0) rfl, ldN hbg agg35 (o := 0) rfl]
        refine GoN.does pl37 (ahead (u := v) (v := u) hok.inr.id hokg.inr.id) ?_
        rintro _ w8 ⟨e8, rfl⟩
        try simp only [JoinP.eq, PickP.eq, GuardP.yes, GuardP.undef, GuardP.no (show (true == false) = false from rfl), GuardP.no (show (false == true) = false from rfl), CondP.tt, CondP.ff, add_r, sub_r, mul_r, lss_r, leq_r, gtr_r, geq_r, eql_r, neq_r, eqs_r, nes_r, not_r, nil_r, Bool.not_true, Bool.not_false, if_true, if_false, Bool.false_eq_true, decide_true, decide_false, Nat.zero_add, Bool.and_true, Bool.true_and]
        by_cases hlt2 : ordP f < ordP g
        · have hs1 : firstTo ss (k + 1) = some (k, f) := by rw [hstep]; unfold firstStep; rw [ho, hac]; exact if_pos hlt2
          rw [decide_eq_true hlt2]
          try simp only [JoinP.eq, PickP.eq, GuardP.yes, GuardP.undef, GuardP.no (show (true == false) = false from rfl), GuardP.no (show (false == true) = false from rfl), CondP.tt, CondP.ff, add_r, sub_r, mul_r, lss_r, leq_r, gtr_r, geq_r, eql_r, neq_r, eqs_r, nes_r, not_r, nil_r, Bool.not_true, Bool.not_false, if_true, if_false, Bool.false_eq_true, decide_true, decide_false, Nat.zero_add, Bool.and_true, Bool.true_and]
          intro w9 e9
          refine put e8 ?_ hs1 w9 e9
          rw [hac]
          exact ⟨u, hbg.ext e8, hokg.mod (Mod.ext (S := []) e8) (.nil _ _)⟩
        · have hs1 : firstTo ss (k + 1) = firstTo ss k := by rw [hstep]; unfold firstStep; rw [ho, hac]; exact if_neg hlt2
          rw [decide_eq_false hlt2]
          try simp only [JoinP.eq, PickP.eq, GuardP.yes, GuardP.undef, GuardP.no (show (true == false) = false from rfl), GuardP.no (show (false == true) = false from rfl), CondP.tt, CondP.ff, add_r, sub_r, mul_r, lss_r, leq_r, gtr_r, geq_r, eql_r, neq_r, eqs_r, nes_r, not_r, nil_r, Bool.not_true, Bool.not_false, if_true, if_false, Bool.false_eq_true, decide_true, decide_false, Nat.zero_add, Bool.and_true, Bool.true_and]
          refine fin (by rw [hs1, hac]) (e14.trans (e47.trans e8)) ?_
          rw [hs1, hac]
          exact ⟨u, hbg.ext e8, hokg.mod (Mod.ext (S := []) e8) (.nil _ _)⟩
  · have hk' : k = ss.length := by omega
    subst hk'
    intro w5 e5
    have e15 := e14.trans e5
    have b15 := b1.ext e15
    have hne : w.heap.size ≠ w1.heap.size := by omega
    unfold firstP
    cases hac : firstTo ss ss.length with
    | none =>
      rw [hac] at hbest
      obtain ⟨v, hb, rfl⟩ := hbest
      rw [ldNQ (hb.ext e5) agg35 (o := 0) rfl]
      refine r_store size35 (l := frC DFr.zero (.slice none 0 0)) rfl rfl (all_one rfl) b15 (show 0 + 3 ≤ 3 by decide) fun w6 c6 b6 => ?_
      exact k_loadN agg35 (l := frC DFr.zero (.slice none 0 0)) rfl b6.at ⟨(e1.trans e15).chg c6 (Nat.le_refl _), rfl⟩
    | some p =>
      obtain ⟨j, g⟩ := p
      rw [hac] at hbest
      obtain ⟨v, hb, hok⟩ := hbest
      rw [ldNQ (hb.ext e5) agg35 (o := 0) rfl]
      have hok5 := hok.mod (Mod.ext (S := []) e5) (.nil _ _)
      refine r_store size35 (l := frC g v) rfl rfl (ent_one hok) b15 (show 0 + 3 ≤ 3 by decide) fun w6 c6 b6 => ?_
      have b6 : Blk w6 w.heap.size (frC g v) 35 := b6
      exact k_loadN agg35 (l := frC g v) rfl b6.at ⟨(e1.trans e15).chg c6 (Nat.le_refl _), v, rfl, hok5.mod (Mod.one c6) (.one b15 (by decide))⟩
end Go.Proofs.Ytfdjkdiebabimaa.Sh
