/- Frames: their order, copies of them, are they the same; rules. Conditions: lengths up to 2^30. -/
import Derived.Test.YtfdjkdiebabimaaCa
set_option linter.unusedVariables false
set_option linter.unusedSimpArgs false
set_option maxRecDepth 10000
namespace Go.V
open Go.RowKit
variable {P : Program}
theorem p_andL {T : TypeId} {x y : Operand} {k : IntKind} {a b : Nat} {i : Int} (e : i = (b : Int)) (hk : k = .u8 ∨ k = .u16 ∨ k = .u32 ∨ k = .u64) (ha : a < 2 ^ k.bits) (hb : b < 2 ^ k.bits) : Pure P (binSem .and T x y (.int k a) (.int k i)) (.int k ((a &&& b : Nat) : Int)) := by subst e; exact p_and hk ha hb
theorem p_orL {T : TypeId} {x y : Operand} {k : IntKind} {a b : Nat} {i : Int} (e : i = (b : Int)) (hk : k = .u8 ∨ k = .u16 ∨ k = .u32 ∨ k = .u64) (ha : a < 2 ^ k.bits) (hb : b < 2 ^ k.bits) : Pure P (binSem .or T x y (.int k a) (.int k i)) (.int k ((a ||| b : Nat) : Int)) := by subst e; exact p_or hk ha hb
theorem p_shlL {T : TypeId} {x y : Operand} {k k' : IntKind} {a n : Nat} {i : Int} (e : i = (n : Int)) (hk : k = .u8 ∨ k = .u16 ∨ k = .u32 ∨ k = .u64) (hn : n ≤ k.bits) : Pure P (binSem .shl T x y (.int k a) (.int k' i)) (.int k ((a * 2 ^ n % 2 ^ k.bits : Nat) : Int)) := by subst e; exact p_shlN hk hn
theorem p_shrL {T : TypeId} {x y : Operand} {k k' : IntKind} {a n : Nat} {i : Int} (e : i = (n : Int)) (hn : n ≤ k.bits) : Pure P (binSem .shr T x y (.int k a) (.int k' i)) (.int k ((a >>> n : Nat) : Int)) := by subst e; exact p_shrN hn
/-- A copy of a list that is no greater than what may be read. -/
theorem r_cloneB {α : Type} {t e sz bytes ty : Nat} (ht : SlT P t e sz bytes) (h0 : ∀ w, (Instr.buildSlice t 0 #[]).run P w = .ok (.slice (some ⟨w.heap.size, 0, none⟩) 0 0) (w.alloc (.cells #[] e)))
    {m : Mem} {s : Value} {l : List α} {R : List Value → α → Prop} {w : World} (hs : Sl m sz R s l) (hm : Sub m w) (hn : l.length * bytes ≤ 140737488355328) (h1 : ∀ cs x, R cs x → ∀ u ∈ cs, u.oneCell' = true) (hb : 1 ≤ bytes)
    {x y : Operand} {K : Value → World → Prop} (hk : ∀ v w', Cloned e sz R l w v w' → K v w') :
    Run P (binSem .eql t x y s (.slice none 0 0)) w fun t4 w1 => CondP t4 1 (fun (k1 : N1) => K (.slice none 0 0) w1) (fun (k2 : N1) => k2 (.slice none 0 0) w1)
      (fun (t2 : Value) (w2 : World) => Run P (Instr.buildSlice t 0 #[]) w2 fun t5 w3 => Run P (Builtin.append_ #[t, t] ty #[t5, s]) w3 fun t7 w4 => K t7 w4) := by
  obtain ⟨p, c, rfl, hc⟩ := hs.form
  obtain ⟨ps, hps, hq, hcell⟩ := hs.pairs
  rw [Pure.run (p_eqnil ht.slice)]
  have hll : l.length ≤ 140737488355328 := Nat.le_trans (Nat.le_mul_of_pos_right _ hb) hn
  have hfl : (ps.flatMap (·.1)).length = l.length * sz := by rw [flat_len _ sz ps fun q hh => (hq q hh).1, ← hps, List.length_map]
  refine CondP.of (fun h => ?_) (fun h => ?_)
  · have hp : p = none := by simpa using h
    subst hp
    have hl : l = [] := by
      cases l with
      | nil => rfl
      | cons a l =>
        obtain ⟨b, o, cs, hp, _⟩ := hs.get (i := 0) (x := a) (by simp)
        cases hp
    subst hl
    refine hk _ _ ⟨Ext.refl _, ⟨ps, hps, hq, ?_⟩, fun g hg => by simp [Value.ownBlock] at hg⟩
    have : ps.flatMap (·.1) = [] := List.eq_nil_of_length_eq_zero (by simpa using hfl)
    rw [this]; exact Own.nil _ _ _
  · obtain ⟨a, rfl⟩ : ∃ a, p = some a := by cases p with | none => simp at h | some a => exact ⟨a, rfl⟩
    refine r_lit (l := []) (h0 w) fun w1 e1 z1 b1 => ?_
    have hown : Own w1 e sz (.slice (some ⟨w.heap.size, 0, none⟩) 0 0) 0 [] := ⟨by simp, .inr ⟨w.heap.size, 0, [], rfl, Nat.le_refl _, Nat.zero_le _, by simp, by simpa using b1⟩⟩
    obtain ⟨v', w', hr, ho, hg⟩ := run_appendA (ty := ty) (m := l.length) (c := c) ht hown (hcell a rfl w1 (hm.ext e1)) hfl (fun u hu => by
      obtain ⟨q, hq1, hq2⟩ := List.mem_flatMap.1 hu
      exact h1 _ _ (hq q hq1).2 u hq2) (by simp only [maxLen]; omega) (by simpa using hn)
    have hv : ∀ k, (Value.slice (some ⟨w.heap.size, 0, none⟩) 0 0).ownBlock = some k → w.heap.size ≤ k := fun k hk => by simp [Value.ownBlock] at hk; omega
    refine .of hr (hk _ _ ⟨Below.trans e1 (hg.below e1.size hv), ⟨ps, hps, hq, by simpa using ho⟩, hg.low e1.size hv⟩)
end Go.V
namespace Go.Proofs.Ytfdjkdiebabimaa.Sh
open Go Go.V Go.RowKit Go.Proofs.Ytfdjkdiebabimaa.Bp

theorem k64 : IntKind.u64 = .u8 ∨ IntKind.u64 = .u16 ∨ IntKind.u64 = .u32 ∨ IntKind.u64 = .u64 := .inr (.inr (.inr rfl))
/-! The order. -/
def ordP (f : DFr) : Nat :=
  if f.wide then (((f.id &&& 536870911) >>> 18 * 1048576 ||| 524288) ||| ((f.id &&& 536870911) &&& 262143)) else (f.id &&& 2047) * 1048576
theorem order {f : DFr} {v : Value} {w : World} (hid : f.id < 4294967296) :
    Does Try.prog 50 [frA f v] w fun r w' => Ext w w' ∧ r = .int .u64 (ordP f : Int) := by
  refine D50 ?_
  unfold S50
  refine r_box fun w1 e1 z1 b1 => ?_
  have b1 : Blk w1 w.heap.size (frC f v) 35 := b1
  rw [Pure.run (p_field (o := 0) fld35_1), ld1 b1 one4 (o := 0 + 1) rfl, not_r]
  cases hw : f.wide with
  | false =>
    have hle : f.id &&& 2047 ≤ 2047 := Nat.and_le_right
    rw [Bool.not_false, CondP.tt, Pure.run (p_field (o := 0) fld35_0), ld1 b1 one32 (o := 0 + 0) rfl, Pure.run (p_andL (i := 2047) (b := 2047) rfl k32 (by simp [IntKind.bits]; omega) (by decide)),
      Pure.run (p_conv Try.underlying32 Try.underlying113), wrap_nat k64 (by simp [IntKind.bits]; omega), Pure.run (p_shlL (i := 20) (n := 20) rfl k64 (by decide))]
    refine ⟨e1, ?_⟩
    unfold ordP
    rw [hw, Nat.mod_eq_of_lt (by simp [IntKind.bits]; omega)]
    rfl
  | true =>
    have hle : f.id &&& 536870911 ≤ 536870911 := Nat.and_le_right
    have hsh : (f.id &&& 536870911) >>> 18 ≤ 536870911 := Nat.le_trans (Nat.shiftRight_le _ _) hle
    rw [Bool.not_true, CondP.ff]
    show Run _ _ _ _
    rw [Pure.run (p_field (o := 0) fld35_0), ld1 b1 one32 (o := 0 + 0) rfl, Pure.run (p_andL (i := 536870911) (b := 536870911) rfl k32 (by simp [IntKind.bits]; omega) (by decide)),
      Pure.run (p_conv Try.underlying32 Try.underlying113), wrap_nat k64 (by simp [IntKind.bits]; omega), Pure.run (p_shrL (i := 18) (n := 18) rfl (by decide)), Pure.run (p_shlL (i := 20) (n := 20) rfl k64 (by decide)),
      Nat.mod_eq_of_lt (b := 2 ^ IntKind.bits .u64) (by simp [IntKind.bits]; omega), Pure.run (p_orL (i := 524288) (b := 524288) rfl k64 (by simp [IntKind.bits]; omega) (by decide)), Pure.run (p_andL (i := 262143) (b := 262143) rfl k64 (by simp [IntKind.bits]; omega) (by decide))]
    have h1 : (f.id &&& 536870911) >>> 18 * 2 ^ 20 < 2 ^ 64 := by omega
    have h2 : (f.id &&& 536870911) >>> 18 * 2 ^ 20 ||| 524288 < 2 ^ 64 := Nat.or_lt_two_pow h1 (by decide)
    have h3 : (f.id &&& 536870911) &&& 262143 < 2 ^ 64 := Nat.lt_of_le_of_lt Nat.and_le_left (by omega)
    rw [Pure.run (p_or k64 h2 h3)]
    refine ⟨e1, ?_⟩
    unfold ordP
    rw [hw]; rfl
theorem ahead {f g : DFr} {u v : Value} {w : World} (hf : f.id < 4294967296) (hg : g.id < 4294967296) :
    Does Try.prog 37 [frA f u, frA g v] w fun r w' => Ext w w' ∧ r = .bool (decide (ordP f < ordP g)) := by
  refine D37 ?_
  unfold S37
  refine r_box fun w1 e1 z1 b1 => ?_
  have b1 : Blk w1 w.heap.size (frC f u) 35 := b1
  refine r_box fun w2 e2 z2 b2 => ?_
  have b2 : Blk w2 w1.heap.size (frC g v) 35 := b2
  intro w3 e3
  have b13 := (b1.ext e2).ext e3
  have b23 := b2.ext e3
  rw [ldNQ b13 agg35 (o := 0) rfl]
  refine GoN.does pl50 (order (v := u) hf) ?_
  rintro _ w4 ⟨e4, rfl⟩
  refine ⟨e4, ?_⟩
  rw [ldNQ b23 agg35 (o := 0) rfl]
  refine GoN.does pl50 (order (v := v) hg) ?_
  rintro _ w5 ⟨e5, rfl⟩
  refine ⟨e4.trans e5, ?_⟩
  rw [lss_q]
  refine ⟨((((e1.trans e2).trans e3).trans e4).trans e5), ?_⟩
  congr 1
  exact decide_eq_decide.2 (by omega)
/-! Copies. -/
theorem one_byte : ∀ (cs : List Value) (x : Nat), RByte cs x → ∀ u ∈ cs, u.oneCell' = true := by
  rintro _ x rfl u hu
  simp at hu; subst hu; rfl
theorem pairs_flat {α : Type} (f : α → List Value) : ∀ (ps : List (List Value × α)), (∀ q ∈ ps, q.1 = f q.2) → ps.flatMap (·.1) = (ps.map (·.2)).flatMap f
  | [], _ => rfl
  | q :: ps, h => by
    rw [List.flatMap_cons, List.map_cons, List.flatMap_cons, pairs_flat f ps (fun x hx => h x (by simp [hx])), h q (by simp)]
theorem lit0y (w : World) : (Instr.buildSlice 33 0 #[]).run Try.prog w = .ok (.slice (some ⟨w.heap.size, 0, none⟩) 0 0) (w.alloc (.cells #[] 5)) := by kernel_rfl
theorem lit0ru (w : World) : (Instr.buildSlice 57 0 #[]).run Try.prog w = .ok (.slice (some ⟨w.heap.size, 0, none⟩) 0 0) (w.alloc (.cells #[] 69)) := by kernel_rfl
theorem cloneY {m : Mem} {v : Value} {l : List Nat} {w : World} (hm : Sub m w) (hv : Bytes m v l) (hn : l.length ≤ 140737488355328) :
    Does Try.prog 43 [v] w fun r w' => Ext w w' ∧ OBytes w' r l ∧ ∀ g, r.ownBlock = some g → w.heap.size ≤ g := by
  refine D43 ?_
  unfold S43
  refine r_cloneB (K := fun r w' => Ext w w' ∧ OBytes w' r l ∧ ∀ g, r.ownBlock = some g → w.heap.size ≤ g) sl33 lit0y hv hm (by omega) one_byte (by decide) fun v' w' h => ⟨h.ext, ?_, h.low⟩
  obtain ⟨ps, h1, h2, h3⟩ := h.own
  unfold OBytes
  rw [yvals_flat, ← h1, ← pairs_flat (fun (b : Nat) => [Value.int .u8 (b : Int)]) ps (fun q hq => (h2 q hq).2)]
  rw [← h1] at h3; exact h3
structure DRule where
  wide : Bool
  code : Nat
  mask : Nat
deriving DecidableEq
def ruleC (r : DRule) : List Value := [.bool r.wide, .int .u32 (r.code : Int), .int .u32 (r.mask : Int)]
def RRule (cs : List Value) (r : DRule) : Prop := cs = ruleC r ∧ r.code < 4294967296 ∧ r.mask < 4294967296
abbrev Rules (m : Mem) (v : Value) (l : List DRule) : Prop := Sl m 3 RRule v l
def RuOk (l : List DRule) : Prop := ∀ r ∈ l, r.code < 4294967296 ∧ r.mask < 4294967296
structure ORules (w : World) (v : Value) (l : List DRule) : Prop where
  own : Own w 69 3 v l.length (l.flatMap ruleC)
  ok : RuOk l
theorem ORules.rules {w : World} {v : Value} {l : List DRule} (h : ORules w v l) : Rules (memW w) v l := by
  have := h.own.sl (R := fun cs x => cs = ruleC x) (fun _ _ => rfl) (fun _ _ => rfl)
  obtain ⟨p, c, h1, h2, h3⟩ := this.h
  refine ⟨⟨p, c, h1, h2, fun i x hx => ?_⟩⟩
  obtain ⟨b, o, cs, a1, a2, a3, a4⟩ := h3 i x hx
  exact ⟨b, o, cs, a1, a2, a3, a4, h.ok x (List.mem_of_getElem? hx)⟩
theorem one_rule : ∀ (cs : List Value) (x : DRule), RRule cs x → ∀ u ∈ cs, u.oneCell' = true := by
  rintro _ x ⟨rfl, _⟩ u hu
  simp [ruleC] at hu
  rcases hu with rfl | rfl | rfl <;> rfl
theorem cloneR {m : Mem} {v : Value} {l : List DRule} {w : World} (hm : Sub m w) (hv : Rules m v l) (hn : l.length * 12 ≤ 140737488355328) :
    Does Try.prog 25 [v] w fun r w' => Ext w w' ∧ ORules w' r l := by
  refine D25 ?_
  unfold S25
  refine r_cloneB (K := fun r w' => Ext w w' ∧ ORules w' r l) sl57 lit0ru hv hm hn one_rule (by decide) fun v' w' h => ⟨h.ext, ?_, ?_⟩
  · obtain ⟨ps, h1, h2, h3⟩ := h.own
    rw [← h1, ← pairs_flat ruleC ps (fun q hq => (h2 q hq).2.1)]
    rw [← h1] at h3; exact h3
  · obtain ⟨ps, h1, h2, h3⟩ := h.own
    intro r hr
    rw [← h1] at hr
    obtain ⟨q, hq, rfl⟩ := List.mem_map.1 hr
    exact (h2 q hq).2.2
/-- A frame with memory of its own. -/
structure OwnFr (f : DFr) (w : World) (r : Value) (w' : World) : Prop where
  ext : Ext w w'
  h : ∃ v, r = frA f v ∧ EntOk w' (f, v) ∧ ∀ g, v.ownBlock = some g → w.heap.size ≤ g
theorem ownF {m : Mem} {v : Value} {f : DFr} {w : World} (hm : Sub m w) (hv : Bytes m v f.data) (hr : InR f) :
    Does Try.prog 29 [frA f v] w (OwnFr f w) := by
  refine D29 ?_
  unfold S29
  refine r_box fun w1 e1 z1 b1 => ?_
  have b1 : Blk w1 w.heap.size (frC f v) 35 := b1
  refine r_alloc zero35 fun w2 e2 z2 b2 => ?_
  rw [Pure.run (p_field (o := 0) fld35_2), ld1 (b1.ext e2) one33 (o := 0 + 2) rfl]
  have e02 := e1.trans e2
  refine GoN.does pl43 (cloneY (hm.ext e02) hv hr.len) ?_
  rintro v' w3 ⟨e3, ho, hlow⟩
  have b13 := (b1.ext e2).ext e3
  have hone : v'.cells.toList = [v'] ∧ v'.oneCell' = true := by
    obtain ⟨p', c', rfl, _⟩ := ho.len
    exact ⟨rfl, rfl⟩
  rw [Pure.run (p_field (o := 0) fld35_2)]
  refine r_store size33 (l := [v']) hone.1 rfl (by intro x hx; simp at hx; subst hx; exact hone.2) b13 (show 0 + 2 + 1 ≤ 3 by decide) fun w4 c4 b4 => ?_
  have b4 : Blk w4 w.heap.size (frC f v') 35 := b4
  rw [ldN b4 agg35 (o := 0) rfl]
  have hne : v'.ownBlock ≠ some w.heap.size := fun he => by have := hlow _ he; omega
  have ho4 := ho.chg c4 hne
  have b24 := (b2.ext e3).chg c4 (by omega)
  have hne1 : v'.ownBlock ≠ some w1.heap.size := fun he => by have := hlow _ he; omega
  refine r_store size35 (l := frC f v') rfl rfl (ent_one (x := (f, v')) ⟨ho4, hr⟩) b24 (show 0 + 3 ≤ 3 by decide) fun w5 c5 b5 => ?_
  have b5 : Blk w5 w1.heap.size (frC f v') 35 := b5
  refine k_loadN agg35 (l := frC f v') rfl b5.at ⟨((e02.trans e3).chg c4 (Nat.le_refl _)).chg c5 (by omega), v', rfl, ⟨ho4.chg c5 hne1, hr⟩, fun g hg => by have := hlow _ hg; have := e02.size; omega⟩
theorem copyY {m : Mem} {v : Value} {l : List Nat} {w : World} (hm : Sub m w) (hv : Bytes m v l) (hn : l.length ≤ 140737488355328) :
    Does Try.prog 30 [v] w fun r w' => Ext w w' ∧ OBytes w' r l ∧ ∀ g, r.ownBlock = some g → w.heap.size ≤ g := by
  obtain ⟨p, c, rfl, hc⟩ := hv.form
  refine D30 ?_
  unfold S30
  simp only [JoinP.eq]
  refine LoopP.of2 (fun u i w' => ∃ k : Nat, k ≤ l.length ∧ i = .int .i64 k ∧ OBytes w' u (l.take k) ∧ Ext w w' ∧ ∀ g, u.ownBlock = some g → w.heap.size ≤ g) (fun _ i _ => l.length - (intOf i).toNat)
    ⟨0, Nat.zero_le _, rfl, Own.nil _ _ _, Ext.refl _, fun g hg => by simp [Value.ownBlock] at hg⟩ ?_
  rintro u _ w1 ⟨k, hk, rfl, ho, e1, hlow⟩
  simp only [Pure.run (p_len sl33.slice), lss_r]
  refine CondP.dec (fun h => ?_) (fun h => ?_)
  · have hk' : k < l.length := by omega
    obtain ⟨x, hx⟩ : ∃ x, l[k]? = some x := ⟨l[k], by simp⟩
    obtain ⟨bl, ol, cs, rfl, _, _, _, hat, rfl⟩ := hv.get hx
    try simp only [JoinP.eq]
    rw [Pure.run (p_idx (e := 5) (sz := 1) sl33.slice size5 (by omega) (by omega))]
    refine r_load1 one5 (v := .int .u8 (x : Int)) (by simpa using hat w1 (hm.ext e1) 0 _ rfl) ?_
    have hlt : (l.take k).length = k := by rw [List.length_take]; omega
    refine r_append1 sl33 ho rfl (all_one rfl) (by rw [hlt]; unfold maxLen; omega) (by rw [hlt]; omega) fun u2 w2 ho2 hg2 => ?_
    obtain ⟨x2, hl2⟩ := hg2.grw.isExt e1 hlow
    simp only [add_r]
    refine ⟨⟨k + 1, by omega, succ64 (by omega), ?_, x2, hl2⟩, ?_⟩
    · have : l.take (k + 1) = l.take k ++ [x] := by rw [List.take_succ_eq_append_getElem hk', (List.getElem?_eq_some_iff.1 hx).2]
      rw [this]; unfold OBytes yvals; rw [List.length_append, List.map_append]; exact ho2
    · rw [succ64 (by omega)]; simp [intOf]; omega
  · have hk' : k = l.length := by omega
    subst hk'
    rw [List.take_length] at ho
    exact ⟨e1, ho, hlow⟩
theorem copyF {m : Mem} {v : Value} {f : DFr} {w : World} (hm : Sub m w) (hv : Bytes m v f.data) (hr : InR f) :
    Does Try.prog 11 [frA f v] w (OwnFr f w) := by
  obtain ⟨p, c, rfl, hc⟩ := hv.form
  refine D11 ?_
  unfold S11
  refine r_box fun w1 e1 z1 b1 => ?_
  have b1 : Blk w1 w.heap.size (frC f (.slice p f.data.length c)) 35 := b1
  refine r_alloc zero35 fun w2 e2 z2 b2 => ?_
  have b12 := b1.ext e2
  rw [ldN b12 agg35 (o := 0) rfl]
  refine r_alloc zero35 fun w3 e3 z3 b3 => ?_
  refine r_store size35 (l := frC f (.slice p f.data.length c)) rfl rfl (all_one rfl) b3 (show 0 + 3 ≤ 3 by decide) fun w4 c4 b4 => ?_
  have b4 : Blk w4 w2.heap.size (frC f (.slice p f.data.length c)) 35 := b4
  have x24 : Ext w2 w4 := e3.chg c4 (Nat.le_refl _)
  have b14 := b12.ext x24
  rw [Pure.run (p_field (o := 0) fld35_2), ld1 b14 one33 (o := 0 + 2) rfl]
  have e02 := e1.trans e2
  have e04 := e02.trans x24
  refine GoN.does pl30 (copyY (hm.ext e04) hv hr.len) ?_
  rintro v' w5 ⟨e5, ho, hlow⟩
  have hone : v'.cells.toList = [v'] ∧ v'.oneCell' = true := by
    obtain ⟨p', c', rfl, _⟩ := ho.len
    exact ⟨rfl, rfl⟩
  rw [Pure.run (p_field (o := 0) fld35_2)]
  refine r_store size33 (l := [v']) hone.1 rfl (by intro x hx; simp at hx; subst hx; exact hone.2) (b4.ext e5) (show 0 + 2 + 1 ≤ 3 by decide) fun w6 c6 b6 => ?_
  have b6 : Blk w6 w2.heap.size (frC f v') 35 := b6
  rw [ldN b6 agg35 (o := 0) rfl]
  have hs2 := x24.size
  have hs3 := e02.size
  have hs4 := c4.size
  have ho6 := ho.chg c6 (fun he => by have := hlow _ he; omega)
  have b26 := ((b2.ext x24).ext e5).chg c6 (by omega)
  refine r_store size35 (l := frC f v') rfl rfl (ent_one (x := (f, v')) ⟨ho6, hr⟩) b26 (show 0 + 3 ≤ 3 by decide) fun w7 c7 b7 => ?_
  have b7 : Blk w7 w1.heap.size (frC f v') 35 := b7
  refine k_loadN agg35 (l := frC f v') rfl b7.at ⟨((e04.trans e5).chg c6 hs3).chg c7 (by omega), v', rfl, ⟨ho6.chg c7 (fun he => by have := hlow _ he; omega), hr⟩, fun g hg => by have := hlow _ hg; have := e04.size; omega⟩
/-! The same. -/
theorem sameY {m : Mem} {u v : Value} {a b : List Nat} {w : World} (hm : Sub m w) (hu : Bytes m u a) (hv : Bytes m v b) (hn : a.length ≤ 140737488355328) :
    Does Try.prog 38 [u, v] w fun r w' => Ext w w' ∧ r = .bool (decide (a = b)) := by
  obtain ⟨p, c, rfl, hc⟩ := hu.form
  obtain ⟨p', c', rfl, hc'⟩ := hv.form
  refine D38 ?_
  unfold S38
  simp only [Pure.run (p_len sl33.slice), neq_r, natdec]
  by_cases hl : a.length = b.length
  · rw [decide_eq_true hl]
    simp only [JoinP.eq, PickP.eq, GuardP.yes, GuardP.undef, GuardP.no (show (true == false) = false from rfl), GuardP.no (show (false == true) = false from rfl), CondP.tt, CondP.ff, add_r, sub_r, mul_r, lss_r, leq_r, gtr_r, geq_r, eql_r, neq_r, eqs_r, nes_r, not_r, nil_r, Bool.not_true, Bool.not_false, if_true, if_false, Bool.false_eq_true, decide_true, decide_false, Nat.zero_add, Bool.and_true, Bool.true_and]
    refine LoopP.of2 (fun _ i w' => ∃ k : Nat, k ≤ a.length ∧ i = .int .i64 k ∧ a.take k = b.take k ∧ Ext w w') (fun _ i _ => a.length - (intOf i).toNat) ⟨0, Nat.zero_le _, rfl, rfl, Ext.refl _⟩ ?_
    rintro _ _ w1 ⟨k, hk, rfl, heq, e1⟩
    try simp only [Pure.run (p_len sl33.slice), lss_r]
    refine CondP.dec (fun h => ?_) (fun h => ?_)
    · have hk' : k < a.length := by omega
      obtain ⟨x, hx⟩ : ∃ x, a[k]? = some x := ⟨a[k], by simp⟩
      obtain ⟨y, hy⟩ : ∃ y, b[k]? = some y := ⟨b[k], by simp⟩
      obtain ⟨bl, ol, cs, rfl, _, _, _, hat, rfl⟩ := hu.get hx
      obtain ⟨bl', ol', cs, rfl, _, _, _, hat', rfl⟩ := hv.get hy
      try simp only [JoinP.eq]
      intro w2 e2
      have m2 := (hm.ext e1).ext e2
      rw [Pure.runQ (p_idx (e := 5) (sz := 1) sl33.slice size5 (by omega) (by omega)), ldcQ one5 (v := .int .u8 (x : Int)) (by simpa using hat w2 m2 0 _ rfl),
        Pure.runQ (p_idx (e := 5) (sz := 1) sl33.slice size5 (by omega) (by omega)), ldcQ one5 (v := .int .u8 (y : Int)) (by simpa using hat' w2 m2 0 _ rfl), neq_q, natdec]
      by_cases hxy : x = y
      · rw [decide_eq_true hxy, Bool.not_true, CondP.ff]
        simp only [add_r]
        refine ⟨⟨k + 1, by omega, succ64 (by omega), ?_, e1.trans e2⟩, ?_⟩
        · rw [List.take_succ_eq_append_getElem hk', List.take_succ_eq_append_getElem (by omega), heq, (List.getElem?_eq_some_iff.1 hx).2, (List.getElem?_eq_some_iff.1 hy).2, hxy]
        · rw [succ64 (by omega)]; simp [intOf]; omega
      · rw [decide_eq_false hxy, Bool.not_false, CondP.tt]
        refine ⟨e1.trans e2, ?_⟩
        rw [decide_eq_false]
        rintro rfl
        rw [hx] at hy
        exact hxy (by injection hy)
    · have hk' : k = a.length := by omega
      subst hk'
      rw [List.take_length, hl, List.take_length] at heq
      exact ⟨e1, by rw [decide_eq_true heq]⟩
  · rw [decide_eq_false hl]
    simp only [JoinP.eq, PickP.eq, GuardP.yes, GuardP.undef, GuardP.no (show (true == false) = false from rfl), GuardP.no (show (false == true) = false from rfl), CondP.tt, CondP.ff, add_r, sub_r, mul_r, lss_r, leq_r, gtr_r, geq_r, eql_r, neq_r, eqs_r, nes_r, not_r, nil_r, Bool.not_true, Bool.not_false, if_true, if_false, Bool.false_eq_true, decide_true, decide_false, Nat.zero_add, Bool.and_true, Bool.true_and]
    refine ⟨Ext.refl _, ?_⟩
    rw [decide_eq_false]
    rintro rfl
    exact hl rfl
theorem sameF {m : Mem} {u v : Value} {f g : DFr} {w : World} (hm : Sub m w) (hu : Bytes m u f.data) (hv : Bytes m v g.data) (hn : f.data.length ≤ 140737488355328) :
    Does Try.prog 20 [frA f u, frA g v] w fun r w' => Ext w w' ∧ r = .bool (decide (f = g)) := by
  refine D20 ?_
  unfold S20
  refine r_box fun w1 e1 z1 b1 => ?_
  have b1 : Blk w1 w.heap.size (frC f u) 35 := b1
  refine r_box fun w2 e2 z2 b2 => ?_
  have b2 : Blk w2 w1.heap.size (frC g v) 35 := b2
  have b1 := b1.ext e2
  have e02 := e1.trans e2
  simp only [Pure.run (p_field (o := 0) fld35_0), Pure.run (p_field (o := 0) fld35_1), Pure.run (p_field (o := 0) fld35_2)]
  rw [ld1 b1 one32 (o := 0 + 0) rfl, ld1 b2 one32 (o := 0 + 0) rfl, eql_r, natdec]
  have hfg : (f = g) = (f.id = g.id ∧ f.wide = g.wide ∧ f.data = g.data) := by
    obtain ⟨a, b, c⟩ := f; obtain ⟨a', b', c'⟩ := g
    simp
  by_cases h1 : f.id = g.id
  · rw [decide_eq_true h1]
    simp only [JoinP.eq, PickP.eq, GuardP.yes, GuardP.undef, GuardP.no (show (true == false) = false from rfl), GuardP.no (show (false == true) = false from rfl), CondP.tt, CondP.ff, add_r, sub_r, mul_r, lss_r, leq_r, gtr_r, geq_r, eql_r, neq_r, eqs_r, nes_r, not_r, nil_r, Bool.not_true, Bool.not_false, if_true, if_false, Bool.false_eq_true, decide_true, decide_false, Nat.zero_add, Bool.and_true, Bool.true_and]
    rw [ld1 b1 one4 (o := 0 + 1) rfl, ld1 b2 one4 (o := 0 + 1) rfl, eqb_r]
    by_cases h2 : f.wide = g.wide
    · rw [decide_eq_true h2]
      simp only [JoinP.eq, PickP.eq, GuardP.yes, GuardP.undef, GuardP.no (show (true == false) = false from rfl), GuardP.no (show (false == true) = false from rfl), CondP.tt, CondP.ff, add_r, sub_r, mul_r, lss_r, leq_r, gtr_r, geq_r, eql_r, neq_r, eqs_r, nes_r, not_r, nil_r, Bool.not_true, Bool.not_false, if_true, if_false, Bool.false_eq_true, decide_true, decide_false, Nat.zero_add, Bool.and_true, Bool.true_and]
      rw [ld1 b1 one33 (o := 0 + 2) rfl, ld1 b2 one33 (o := 0 + 2) rfl]
      refine GoN.does pl38 (sameY (hm.ext e02) hu hv hn) ?_
      rintro _ w3 ⟨e3, rfl⟩
      refine ⟨e02.trans e3, ?_⟩
      congr 1
      exact decide_eq_decide.2 (by rw [hfg]; simp [h1, h2])
    · rw [decide_eq_false h2]
      simp only [JoinP.eq, PickP.eq, GuardP.yes, GuardP.undef, GuardP.no (show (true == false) = false from rfl), GuardP.no (show (false == true) = false from rfl), CondP.tt, CondP.ff, add_r, sub_r, mul_r, lss_r, leq_r, gtr_r, geq_r, eql_r, neq_r, eqs_r, nes_r, not_r, nil_r, Bool.not_true, Bool.not_false, if_true, if_false, Bool.false_eq_true, decide_true, decide_false, Nat.zero_add, Bool.and_true, Bool.true_and]
      exact ⟨e02, by rw [decide_eq_false (by rw [hfg]; simp [h2])]⟩
  · rw [decide_eq_false h1]
    simp only [JoinP.eq, PickP.eq, GuardP.yes, GuardP.undef, GuardP.no (show (true == false) = false from rfl), GuardP.no (show (false == true) = false from rfl), CondP.tt, CondP.ff, add_r, sub_r, mul_r, lss_r, leq_r, gtr_r, geq_r, eql_r, neq_r, eqs_r, nes_r, not_r, nil_r, Bool.not_true, Bool.not_false, if_true, if_false, Bool.false_eq_true, decide_true, decide_false, Nat.zero_add, Bool.and_true, Bool.true_and]
    exact ⟨e02, by rw [decide_eq_false (by rw [hfg]; simp [h1])]⟩
end Go.Proofs.Ytfdjkdiebabimaa.Sh
