/- Frames in memory; their bits; frames encoded. Conditions: lengths up to 2^30. -/
import Derived.Test.YtfdjkdiebabimaaBu
set_option linter.unusedVariables false
set_option linter.unusedSimpArgs false
set_option maxRecDepth 10000
namespace Go.Proofs.Ytfdjkdiebabimaa.Sh
open Go Go.V Go.RowKit Go.Proofs.Ytfdjkdiebabimaa.Bp

abbrev RByte (cs : List Value) (x : Nat) : Prop := cs = [Value.int .u8 (x : Int)]
abbrev Bytes (m : Mem) (v : Value) (l : List Nat) : Prop := Sl m 1 RByte v l
def yvals (l : List Nat) : List Value := l.map fun (x : Nat) => Value.int .u8 (x : Int)
abbrev OBytes (w : World) (v : Value) (l : List Nat) : Prop := Own w 5 1 v l.length (yvals l)
theorem yvals_flat (l : List Nat) : yvals l = l.flatMap fun (b : Nat) => [Value.int .u8 (b : Int)] := by
  induction l with
  | nil => rfl
  | cons b l ih => simp [yvals] at ih ⊢; exact ih
theorem OBytes.bytes {w : World} {v : Value} {l : List Nat} (h : OBytes w v l) : Bytes (memW w) v l := by
  unfold OBytes at h
  rw [yvals_flat] at h
  exact h.sl (fun _ _ => rfl) (fun _ _ => rfl)
def frC (f : DFr) (v : Value) : List Value := [.int .u32 (f.id : Int), .bool f.wide, v]
abbrev frA (f : DFr) (v : Value) : Value := .agg (frC f v).toArray
/-- A frame's numbers are of their kinds. -/
structure InR (f : DFr) : Prop where
  id : f.id < 4294967296
  bytes : ∀ b ∈ f.data, b < 256
  len : f.data.length ≤ 140737488355328
def idBad (f : DFr) : Bool := decide (536870911 < f.id) || (!f.wide && decide (2047 < f.id))
def encErr (f : DFr) : Int := if idBad f then 26 else if 8 < f.data.length then 15 else 0
theorem valid_of {f : DFr} (h : encErr f = 0) (hr : InR f) : Valid f := by
  unfold encErr at h
  split at h
  · cases h
  · split at h
    · cases h
    · rename_i h1 h2
      unfold idBad at h1
      simp only [Bool.or_eq_true, Bool.and_eq_true, decide_eq_true_eq, Bool.not_eq_true', not_or, not_and] at h1
      exact ⟨by omega, fun hw => by have := h1.2 hw; omega, by omega, hr.bytes⟩
theorem of_valid {f : DFr} (h : Valid f) : encErr f = 0 ∧ InR f := by
  have h1 := h.id
  have h2 := h.short
  have h3 := h.data
  refine ⟨?_, ⟨by omega, h.bytes, by omega⟩⟩
  unfold encErr
  have : idBad f = false := by
    unfold idBad
    rw [decide_eq_false (by omega)]
    cases hw : f.wide with
    | true => rfl
    | false => simp; exact h2 hw
  rw [this, if_neg (by decide), if_neg (by omega)]
theorem bytes_len (l : List Nat) : (l.flatMap (bitsN · 8)).length = 8 * l.length := by
  induction l with
  | nil => rfl
  | cons b l ih => rw [List.flatMap_cons, List.length_append, ih, bitsN_len, List.length_cons]; omega
def errno (n : Int) : Value := .iface 70 (.int .i64 n)
theorem i_err (n : Int) : Pure Try.prog (Instr.makeInterface 70 (.int .i64 n)) (errno n) := fun w => by kernel_rfl
/-- What Bits answers. -/
structure BitsR (f : DFr) (w : World) (r : Value) (w' : World) : Prop where
  ext : Ext w w'
  bad : encErr f ≠ 0 → r = .tuple #[.slice none 0 0, errno (encErr f)]
  good : encErr f = 0 → ∃ u, r = .tuple #[u, .nilIface] ∧ OBits w' u (bitsP f) ∧ ∀ k, u.ownBlock = some k → w.heap.size ≤ k
theorem bits {m : Mem} {v : Value} {f : DFr} {w : World} (hm : Sub m w) (hv : Bytes m v f.data) (hr : InR f) :
    Does Try.prog 35 [frA f v] w (BitsR f w) := by
  obtain ⟨p, c, rfl, hc⟩ := hv.form
  have hid := hr.id
  have hln := hr.len
  refine D35 ?_
  unfold S35
  refine r_box fun w1 e1 z1 b1 => ?_
  have b1 : Blk w1 w.heap.size (frC f (.slice p f.data.length c)) 35 := b1
  rw [Pure.run (p_field (o := 0) fld35_0), ld1 b1 one32 (o := 0 + 0) rfl, gtr_r]
  have badid : ∀ (K : N2), idBad f = true → CondP (.bool true) 2 (fun (k9 : N2) => Run Try.prog (Instr.makeInterface 70 (.int .i64 26)) w1 fun t20 w14 => BitsR f w (.tuple #[.slice none 0 0, t20]) w14) (fun (k10 : N2) => k10 (.slice none 0 0) .nilIface w1) K := by
    intro K hb
    rw [CondP.tt, Pure.run (i_err _)]
    have he : encErr f = 26 := by unfold encErr; rw [if_pos hb]
    exact ⟨e1, fun _ => by rw [he], fun h => by rw [he] at h; cases h⟩
  have hrest : ∀ (_ : idBad f = false), True := fun _ => trivial
  have step : ∀ (b : Bool) (A : NF 2 → Prop) (t2 t3 : Value) (K : N2), (b = true → A K) → (b = false → K t2 t3 w1) → CondP (.bool b) 2 A (fun (k10 : N2) => k10 t2 t3 w1) K := fun b A t2 t3 K h1 h2 => CondP.of h1 h2
  have hnat : ∀ (a b : Nat), decide ((a : Int) < (b : Int)) = decide (a < b) := fun a b => decide_eq_decide.2 (by omega)
  have chain : ∀ (K : Value → World → Prop), K (.bool (idBad f)) w1 →
      GuardP (.bool (decide ((536870911 : Int) < (f.id : Int)))) false (fun (k1 : N1) => Run Try.prog (Instr.fieldAt 35 (.pointer (some ⟨w.heap.size, 0, none⟩)) 1) w1 k1) w1 fun t11 w5 =>
      GuardP (.bool (decide ((536870911 : Int) < (f.id : Int)))) false (fun (k2 : N1) => Run Try.prog (Instr.loadAt 4 t11) w5 k2) w5 fun t12 w6 =>
      GuardP (.bool (decide ((536870911 : Int) < (f.id : Int)))) false (fun (k3 : N1) => Run Try.prog (Op.unary .not t12) w6 k3) w6 fun t13 w7 =>
      GuardP (.bool (decide ((536870911 : Int) < (f.id : Int)))) false (fun (k4 : N1) => k4 t13 w7) w7 fun t14 w8 =>
      GuardP t14 true (fun (k5 : N1) => Run Try.prog (Instr.fieldAt 35 (.pointer (some ⟨w.heap.size, 0, none⟩)) 0) w8 k5) w8 fun t15 w9 =>
      GuardP t14 true (fun (k6 : N1) => Run Try.prog (Instr.loadAt 32 t15) w9 k6) w9 fun t16 w10 =>
      GuardP t14 true (fun (k7 : N1) => Run Try.prog (binSem .gtr 32 (.tmp 16) (.const (.int .u32 2047)) t16 (.int .u32 2047)) w10 k7) w10 fun t17 w11 =>
      GuardP (.bool (decide ((536870911 : Int) < (f.id : Int)))) false (fun (k8 : N1) => PickP t14 t17 (.bool false) w11 k8) w11 fun t18 w12 =>
      PickP (.bool (decide ((536870911 : Int) < (f.id : Int)))) (.bool true) t18 w12 K := by
    intro K hK
    unfold idBad at hK
    rw [show decide ((536870911 : Int) < (f.id : Int)) = decide (536870911 < f.id) from hnat 536870911 f.id]
    cases h1 : decide (536870911 < f.id) with
    | true => rw [h1] at hK; simp only [JoinP.eq, PickP.eq, GuardP.yes, GuardP.undef, GuardP.no (show (true == false) = false from rfl), GuardP.no (show (false == true) = false from rfl), CondP.tt, CondP.ff, add_r, sub_r, mul_r, lss_r, leq_r, gtr_r, geq_r, eql_r, neq_r, eqs_r, nes_r, not_r, nil_r, Bool.not_true, Bool.not_false, if_true, if_false, Bool.false_eq_true, decide_true, decide_false, Nat.zero_add, Bool.and_true, Bool.true_and]; simpa using hK
    | false =>
      rw [h1] at hK
      simp only [GuardP.yes]
      rw [Pure.run (p_field (o := 0) fld35_1), ld1 b1 one4 (o := 0 + 1) rfl, not_r]
      cases h2 : f.wide with
      | true => rw [h2] at hK; simp only [JoinP.eq, PickP.eq, GuardP.yes, GuardP.undef, GuardP.no (show (true == false) = false from rfl), GuardP.no (show (false == true) = false from rfl), CondP.tt, CondP.ff, add_r, sub_r, mul_r, lss_r, leq_r, gtr_r, geq_r, eql_r, neq_r, eqs_r, nes_r, not_r, nil_r, Bool.not_true, Bool.not_false, if_true, if_false, Bool.false_eq_true, decide_true, decide_false, Nat.zero_add, Bool.and_true, Bool.true_and]; simpa using hK
      | false =>
        rw [h2] at hK
        simp only [Bool.not_false, GuardP.yes]
        rw [Pure.run (p_field (o := 0) fld35_0), ld1 b1 one32 (o := 0 + 0) rfl, gtr_r, show decide ((2047 : Int) < (f.id : Int)) = decide (2047 < f.id) from hnat 2047 f.id]
        simp only [PickP.eq, if_true, Bool.false_eq_true, if_false]
        simpa using hK
  refine chain _ ?_
  refine CondP.of (fun hb => ?_) (fun hb => ?_)
  · rw [Pure.run (i_err _)]
    have he : encErr f = 26 := by unfold encErr; rw [if_pos hb]
    exact ⟨e1, fun _ => by rw [he], fun h => by rw [he] at h; cases h⟩
  · show Run _ _ _ _
    rw [Pure.run (p_field (o := 0) fld35_2), ld1 b1 one33 (o := 0 + 2) rfl]
    simp only [Pure.run (p_len sl33.slice), gtr_r]
    refine CondP.dec (fun h8 => ?_) (fun h8 => ?_)
    · rw [Pure.run (i_err _)]
      have he : encErr f = 15 := by unfold encErr; rw [if_neg (by rw [hb]; decide), if_pos (by omega)]
      exact ⟨e1, fun _ => by rw [he], fun h => by rw [he] at h; cases h⟩
    · have h8' : f.data.length ≤ 8 := by omega
      have he : encErr f = 0 := by unfold encErr; rw [if_neg (by rw [hb]; decide), if_neg (by omega)]
      try show Run _ _ _ _
      rw [Pure.run (p_field (o := 0) fld35_2), ld1 b1 one33 (o := 0 + 2) rfl]
      simp only [Pure.run (p_len sl33.slice), mul_r, add_r]
      rw [wrap64_id (x := 8 * (f.data.length : Int)) (by omega) (by omega), wrap64_id (by omega) (by omega)]
      refine r_make sl52 zero4 (by decide) (by omega) (by omega) (by omega) fun w2 g ys hg e2 _ ho2 _ => ?_
      have e02 := e1.trans e2
      have b2 := b1.ext e2
      have ho2 : OBits w2 (.slice (some ⟨g, 0, none⟩) 1 (54 + 8 * (f.data.length : Int)).toNat) [false] := ho2
      have hl2 : ∀ k, (Value.slice (some ⟨g, 0, none⟩) 1 (54 + 8 * (f.data.length : Int)).toNat).ownBlock = some k → w.heap.size ≤ k := fun k hk => by simp [Value.ownBlock] at hk; have := e1.size; omega
      rw [show Int.toNat 1 = 1 from rfl]
      generalize (Value.slice (some ⟨g, 0, none⟩) 1 (54 + 8 * (f.data.length : Int)).toNat) = u2 at *
      rw [Pure.run (p_field (o := 0) fld35_1), ld1 b2 one4 (o := 0 + 1) rfl]
      have hd : bitsP f = headP f ++ bitsN (crcP (headP f)) 15 := rfl
      -- the header's own bits
      let hb1 : List Bool := [false] ++ (if f.wide then bitsN (f.id >>> 18) 11 ++ bitsN 3 2 ++ bitsN f.id 18 ++ bitsN 0 3 else bitsN f.id 11 ++ bitsN 0 3)
      have hb1l : hb1.length ≤ 35 := by simp only [hb1]; split <;> simp [bitsN_len]
      have blkE : ∀ {u u' : Value} {w' w'' : World}, Grw w' w'' u u' → (∀ k, u.ownBlock = some k → w1.heap.size ≤ k) → Blk w' w.heap.size (frC f (.slice p f.data.length c)) 35 → Blk w'' w.heap.size (frC f (.slice p f.data.length c)) 35 :=
        fun hgr hlo hbk => (hgr.block _ hbk.lt (fun e => by have := hlo _ e; omega)).trans hbk
      have hl2' : ∀ k, u2.ownBlock = some k → w1.heap.size ≤ k := fun k hk => by
        rcases ho2.2 with ⟨rfl, _⟩ | ⟨g', cap, ys', rfl, _, _, _, hbk⟩
        · simp [Value.ownBlock] at hk
        · have := hl2 k hk
          simp [Value.ownBlock] at hk
          subst hk
          rcases Nat.lt_or_ge g' w1.heap.size with h | h
          · exfalso
            obtain rfl : g' = w.heap.size := by omega
            unfold Blk at hbk b2
            rw [b2] at hbk
            injection hbk with h1
            injection h1 with _ h2
            exact absurd h2 (by decide)
          · exact h
      refine CondP.via (fun u w' => OBits w' u hb1 ∧ Ext w1 w' ∧ ∀ k, u.ownBlock = some k → w1.heap.size ≤ k) ?_ (fun h K hK => ?_) (fun h K hK => ?_)
      rotate_left
      · rw [Pure.run (p_field (o := 0) fld35_0), ld1 b2 one32 (o := 0 + 0) rfl]
        rw [show (18 : Int) = ((18 : Nat) : Int) from rfl, Pure.run (p_shrN (n := 18) (by decide))]
        have hsh : f.id >>> 18 < 4294967296 := Nat.lt_of_le_of_lt (Nat.shiftRight_le _ _) hid
        refine GoN.does pl47 (put (x := f.id >>> 18) (n := 11) ho2 hsh (by decide) (by simp)) ?_
        rintro u3 w3 ⟨ho3, hg3⟩
        refine GoN.does pl47 (put (x := 3) (n := 2) ho3 (by decide) (by decide) (by simp [bitsN_len])) ?_
        rintro u4 w4 ⟨ho4, hg4⟩
        have hg24 := hg3.trans hg4
        have b4 := blkE hg24 hl2' b2
        rw [Pure.run (p_field (o := 0) fld35_0), ld1 b4 one32 (o := 0 + 0) rfl]
        refine GoN.does pl47 (put (x := f.id) (n := 18) ho4 hid (by decide) (by simp [bitsN_len])) ?_
        rintro u5 w5 ⟨ho5, hg5⟩
        refine GoN.does pl47 (put (x := 0) (n := 3) ho5 (by decide) (by decide) (by simp [bitsN_len])) ?_
        rintro u6 w6 ⟨ho6, hg6⟩
        obtain ⟨x1, x2⟩ := ((hg24.trans hg5).trans hg6).isExt e2 hl2'
        refine hK u6 w6 ⟨?_, x1, x2⟩
        have : hb1 = [false] ++ bitsN (f.id >>> 18) 11 ++ bitsN 3 2 ++ bitsN f.id 18 ++ bitsN 0 3 := by simp only [hb1, h, if_true]; simp [List.append_assoc]
        rw [this]; exact ho6
      · rw [Pure.run (p_field (o := 0) fld35_0), ld1 b2 one32 (o := 0 + 0) rfl]
        refine GoN.does pl47 (put (x := f.id) (n := 11) ho2 hid (by decide) (by simp)) ?_
        rintro u3 w3 ⟨ho3, hg3⟩
        refine GoN.does pl47 (put (x := 0) (n := 3) ho3 (by decide) (by decide) (by simp [bitsN_len])) ?_
        rintro u4 w4 ⟨ho4, hg4⟩
        obtain ⟨x1, x2⟩ := (hg3.trans hg4).isExt e2 hl2'
        refine hK u4 w4 ⟨?_, x1, x2⟩
        have : hb1 = [false] ++ bitsN f.id 11 ++ bitsN 0 3 := by simp only [hb1, h, Bool.false_eq_true, if_false]; simp [List.append_assoc]
        rw [this]; exact ho4
      · rintro u3 w3 ⟨ho3, x3, hl3⟩
        have b3 := b1.ext x3
        rw [Pure.run (p_field (o := 0) fld35_2), ld1 b3 one33 (o := 0 + 2) rfl]
        simp only [Pure.run (p_len sl33.slice)]
        rw [Pure.run (p_conv Try.underlying3 Try.underlying32), wrap_nat k32 (by simp [IntKind.bits]; omega)]
        refine GoN.does pl47 (put (x := f.data.length) (n := 4) ho3 (by omega) (by decide) (by omega)) ?_
        rintro u4 w4 ⟨ho4, hg4⟩
        obtain ⟨x4, hl4⟩ := hg4.isExt x3 hl3
        have b4 := b1.ext x4
        rw [Pure.run (p_field (o := 0) fld35_2), ld1 b4 one33 (o := 0 + 2) rfl]
        simp only [Pure.run (p_len sl33.slice), JoinP.eq]
        have hfl : ∀ k, ((f.data.take k).flatMap (bitsN · 8)).length ≤ 64 := fun k => by
          rw [bytes_len, List.length_take]; omega
        refine LoopP.of2 (fun u i w' => ∃ k : Nat, k ≤ f.data.length ∧ i = .int .i64 k ∧ OBits w' u (hb1 ++ bitsN f.data.length 4 ++ (f.data.take k).flatMap (bitsN · 8)) ∧ Ext w1 w' ∧ ∀ k, u.ownBlock = some k → w1.heap.size ≤ k) (fun _ i _ => f.data.length - (intOf i).toNat)
          ⟨0, Nat.zero_le _, rfl, by simpa using ho4, x4, hl4⟩ ?_
        rintro u5 _ w5 ⟨k, hk, rfl, ho5, x5, hl5⟩
        simp only [lss_r]
        refine CondP.dec (fun h => ?_) (fun h => ?_)
        · have hk' : k < f.data.length := by omega
          obtain ⟨y, hy⟩ : ∃ y, f.data[k]? = some y := ⟨f.data[k], by simp [hk']⟩
          have hyb := hr.bytes y (List.mem_of_getElem? hy)
          obtain ⟨bl, ol, cs, rfl, _, _, _, hat, rfl⟩ := hv.get hy
          try simp only [JoinP.eq]
          rw [Pure.run (p_idx (e := 5) (sz := 1) sl33.slice size5 (by omega) (by omega))]
          refine r_load1 one5 (v := .int .u8 (y : Int)) (hat w5 ((hm.ext e1).ext x5) 0 _ rfl) ?_
          rw [Pure.run (p_conv Try.underlying5 Try.underlying32), wrap_nat k32 (by simp [IntKind.bits]; omega)]
          have := hfl k
          refine GoN.does pl47 (put (x := y) (n := 8) ho5 (by omega) (by decide) (by simp [bitsN_len] at this ⊢; omega)) ?_
          rintro u6 w6 ⟨ho6, hg6⟩
          obtain ⟨x6, hl6⟩ := hg6.isExt x5 hl5
          simp only [add_r]
          refine ⟨⟨k + 1, by omega, succ64 (by omega), ?_, x6, hl6⟩, ?_⟩
          · rw [List.take_succ_eq_append_getElem hk', (List.getElem?_eq_some_iff.1 hy).2, List.flatMap_append, ← List.append_assoc]
            simpa using ho6
          · rw [succ64 (by omega)]; simp [intOf]; omega
        · have hk' : k = f.data.length := by omega
          subst hk'
          rw [List.take_length] at ho5
          have hhd : hb1 ++ bitsN f.data.length 4 ++ f.data.flatMap (bitsN · 8) = headP f := rfl
          rw [hhd] at ho5
          have hhl := head_len f
          have hhl2 : (headP f).length ≤ 200 := by rw [hhl]; split <;> omega
          refine GoN.does pl48 (crcSum (Sub.self w5) ho5.bits (by omega)) ?_
          rintro _ w6 ⟨rfl, e6⟩
          have hcl := crcP_lt (headP f)
          rw [Pure.run (p_conv Try.underlying111 Try.underlying32), wrap_nat k32 (by simp [IntKind.bits]; omega)]
          refine GoN.does pl47 (put (x := crcP (headP f)) (n := 15) (ho5.ext e6) (by omega) (by decide) (by omega)) ?_
          rintro u7 w7 ⟨ho7, hg7⟩
          obtain ⟨x7, hl7⟩ := hg7.isExt (x5.trans e6) hl5
          exact ⟨e1.trans x7, fun h => absurd he h, fun _ => ⟨u7, rfl, ho7, fun k hk => by have := hl7 k hk; have := e1.size; omega⟩⟩
theorem e_nil (x y : Operand) (t : TypeId) (v : Value) : Pure Try.prog (binSem .neq 27 x y (.iface t v) .nilIface) (.bool true) := fun w => by kernel_rfl
theorem e_nilnil (a : Nat) : Pure Try.prog (binSem .neq 27 (.tmp a) (.const .nilIface) .nilIface .nilIface) (.bool false) := fun w => by kernel_rfl
theorem p_ext {l : Array Value} {v : Value} {i : Nat} (h : l[i]? = some v) : Pure Try.prog (Instr.extract (.tuple l) i) v := fun w => by
  simp [Instr.extract, h, pure, Sem.run]
theorem x2_0 (a b : Value) : Pure Try.prog (Instr.extract (.tuple #[a, b]) 0) a := p_ext rfl
theorem x2_1 (a b : Value) : Pure Try.prog (Instr.extract (.tuple #[a, b]) 1) b := p_ext rfl
end Go.Proofs.Ytfdjkdiebabimaa.Sh
