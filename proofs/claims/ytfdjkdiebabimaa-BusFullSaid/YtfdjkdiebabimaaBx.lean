/- The reader of a frame's bits: what is left, bits taken, the header's first part. Conditions: lengths up to 2^30. -/
import Derived.Test.YtfdjkdiebabimaaBw
set_option linter.unusedVariables false
set_option linter.unusedSimpArgs false
set_option maxRecDepth 10000
namespace Go.V
open Go.RowKit
variable {P : Program}
theorem Sub.mod {m : Mem} {S : List Nat} {w w' : World} (h : Sub m w) (d : Mod S w w') (ho : ∀ k ∈ S, Off m k) : Sub m w' := fun b o v hv => by
  have h1 := h b o v hv
  have hlt := World.block_lt_of_cell? w ⟨b, o, none⟩ h1
  rw [← h1]
  exact World.cell?_of_block (d.block b hlt fun hb => by have := ho b hb o; rw [this] at hv; cases hv)
theorem Mod.one {b : Nat} {w w' : World} (c : Chg b w w') : Mod [b] w w' := Mod.chg c (by simp)
theorem ldG {t b o : Nat} {v : Value} {E : World → Prop} (ht : oneB P t = true) (hE : ∀ w', E w' → w'.cell? ⟨b, o, none⟩ = some v) {K : Value → Prop} (k : K v) : RunG P (Instr.loadAt t (.pointer (some ⟨b, o, none⟩))) E K :=
  ⟨v, fun w' he => run_load1 ht (hE w' he), k⟩
theorem Mod.grow {S : List Nat} {w w' : World} {v v' : Value} (h : Grow w w' v v') (hv : ∀ k, v.ownBlock = some k → k ∈ S) : Mod S w w' :=
  ⟨h.os, h.tape, h.output, h.size, fun k hk hn => h.block k hk fun he => hn (hv k he.symm)⟩
/-- 'append(v, x)' with what holds in between. -/
theorem r_append1E {t e sz bytes ty n : Nat} (ht : SlT P t e sz bytes) {v x : Value} {w : World} {xs : List Value} {E : World → Prop} {K : Value → World → Prop} (hown : Own w e sz v n xs)
    (hx : x.cells.size = sz) (h1 : ∀ u ∈ x.cells.toList, u.oneCell' = true) (h63 : n + 1 ≤ maxLen) (hb : (n + 1) * bytes ≤ 140737488355328)
    (hE : ∀ w', Ext w w' → E w')
    (k : ∀ v' w', Own w' e sz v' (n + 1) (xs ++ x.cells.toList) → Grow w w' v v' → E w' ∧ K v' w') :
    Run P (Instr.buildSlice t 1 #[(0, x)]) w fun y w1 => E w1 ∧ Run P (Builtin.append_ #[t, t] ty #[v, y]) w1 fun z w2 => E w2 ∧ K z w2 := by
  have he := alloc_ext w (.cells x.cells e)
  have hblk : Blk (w.alloc (.cells x.cells e)) w.heap.size x.cells.toList e := by unfold Blk; rw [heap_alloc_new]
  refine .of (run_build1 ht hx w) ⟨hE _ he, r_append ht (hown.ext he) (b := w.heap.size) (o := 0) (news := x.cells.toList) (by have := hblk.at; exact this) (by simpa using hx) h1 h63 hb fun v' w' h2 h3 => k v' w' h2 ?_⟩
  exact Grow.of_ext he h3 fun k hk => hown.lt hk
/-- A row of its own is not a block of another type. -/
theorem Own.ne {w : World} {e sz n b t : Nat} {v : Value} {xs l : List Value} (h : Own w e sz v n xs) (hb : Blk w b l t) (hne : t ≠ e) : v.ownBlock ≠ some b := by
  intro he
  rcases h.2 with ⟨rfl, _⟩ | ⟨g', cap, ys, rfl, _, _, _, h1⟩
  · simp [Value.ownBlock] at he
  · simp [Value.ownBlock] at he
    subst he
    unfold Blk at h1 hb
    rw [hb] at h1
    injection h1 with h
    injection h with _ h2
    exact hne h2
end Go.V
namespace Go.Proofs.Ytfdjkdiebabimaa.Bp
theorem cut_len {m : List Bool} {k n : Nat} (h : k + n ≤ m.length) : (cut m k n).length = n := by simp [cut]; omega
theorem cut_lt (m : List Bool) (k n : Nat) : numP (cut m k n) < 2 ^ n :=
  Nat.lt_of_lt_of_le (num_lt _) (Nat.pow_le_pow_right (by decide) (by simp [cut]; omega))
theorem cut_snoc {m : List Bool} {k n : Nat} {x : Bool} (h : m[k + n]? = some x) : cut m k (n + 1) = cut m k n ++ [x] := by
  unfold cut
  have hn : n < (m.drop k).length := by have := (List.getElem?_eq_some_iff.1 h).1; simp; omega
  rw [List.take_succ_eq_append_getElem hn]
  congr 2
  have := (List.getElem?_eq_some_iff.1 h).2
  rw [List.getElem_drop]; exact this
theorem num_snoc (l : List Bool) (b : Bool) : numP (l ++ [b]) = numP l * 2 + b.toNat := by
  rw [num_append]; simp [numP]
def wideP (m : List Bool) : Bool := decide (numP (cut m 13 1) = 1)
def bad1 (m : List Bool) : Prop := m.length < 14 ∨ numP (cut m 0 1) ≠ 0 ∨ decide (numP (cut m 12 1) = 1) ≠ decide (numP (cut m 13 1) = 1)
def bad2 (m : List Bool) : Prop := if wideP m then m.length < 39 ∨ numP (cut m 32 3) ≠ 0 else m.length < 19 ∨ numP (cut m 14 1) ≠ 0
def kP (m : List Bool) : Nat := if wideP m then 35 else 15
def idP (m : List Bool) : Nat := if wideP m then numP (cut m 1 11) * 262144 % 4294967296 ||| numP (cut m 14 18) else numP (cut m 1 11)
def sizeP (m : List Bool) : Nat := numP (cut m (kP m) 4)
def bad3 (m : List Bool) : Prop := 8 < sizeP m ∨ m.length ≠ kP m + 4 + 8 * sizeP m + 15
def bad5 (m : List Bool) : Prop := numP (cut m (kP m + 4 + 8 * sizeP m) 15) ≠ crcP (m.take (kP m + 4 + 8 * sizeP m))
theorem parse_1 {m : List Bool} (h : bad1 m) : parseP m = none := by
  unfold parseP
  rcases h with h | h
  · rw [if_pos h]
  · split
    · rfl
    · first | rfl | rw [if_pos h]
theorem parse_rest {m : List Bool} (h1 : ¬ bad1 m) (h2 : ¬ bad2 m) : parseP m = restP m (idP m) (wideP m) (kP m) := by
  unfold bad1 at h1
  unfold bad2 at h2
  have a1 : ¬ m.length < 14 := fun h => h1 (.inl h)
  unfold parseP
  rw [if_neg a1, if_neg (fun h => h1 (.inr h))]
  by_cases hw : numP (cut m 13 1) = 1
  · have hw' : wideP m = true := by unfold wideP; exact decide_eq_true hw
    rw [hw', if_pos rfl] at h2
    rw [if_pos hw, if_neg (fun h => h2 (.inl (by omega))), if_neg (fun h => h2 (.inr h))]
    unfold idP kP
    rw [hw', if_pos rfl, if_pos rfl]
  · have hw' : wideP m = false := by unfold wideP; exact decide_eq_false hw
    rw [hw'] at h2
    simp only [Bool.false_eq_true, if_false] at h2
    rw [if_neg hw, if_neg (fun h => h2 (.inl (by omega))), if_neg (fun h => h2 (.inr h))]
    unfold idP kP
    rw [hw']
    rfl
theorem parse_2 {m : List Bool} (h1 : ¬ bad1 m) (h : bad2 m) : parseP m = none := by
  unfold bad1 at h1
  unfold bad2 at h
  have a1 : ¬ m.length < 14 := fun h => h1 (.inl h)
  unfold parseP
  rw [if_neg a1, if_neg (fun h => h1 (.inr h))]
  by_cases hw : numP (cut m 13 1) = 1
  · have hw' : wideP m = true := by unfold wideP; exact decide_eq_true hw
    rw [hw', if_pos rfl] at h
    rw [if_pos hw]
    rcases h with h | h
    · rw [if_pos (by omega)]
    · split
      · rfl
      · first | rfl | rw [if_pos h]
  · have hw' : wideP m = false := by unfold wideP; exact decide_eq_false hw
    rw [hw'] at h
    simp only [Bool.false_eq_true, if_false] at h
    rw [if_neg hw]
    rcases h with h | h
    · rw [if_pos (by omega)]
    · split
      · rfl
      · first | rfl | rw [if_pos h]
theorem parse_3 {m : List Bool} (h1 : ¬ bad1 m) (h2 : ¬ bad2 m) (h : bad3 m) : parseP m = none := by
  rw [parse_rest h1 h2]
  unfold restP
  rcases h with h | h
  · exact if_pos h
  · simp only
    split
    · rfl
    · exact if_pos h
theorem parse_5 {m : List Bool} (h1 : ¬ bad1 m) (h2 : ¬ bad2 m) (h3 : ¬ bad3 m) (h : bad5 m) : parseP m = none := by
  rw [parse_rest h1 h2]
  unfold restP
  simp only
  split
  · rfl
  · split
    · rfl
    · exact if_pos h
theorem parse_ok {m : List Bool} (h1 : ¬ bad1 m) (h2 : ¬ bad2 m) (h3 : ¬ bad3 m) (h : ¬ bad5 m) : parseP m = some ⟨idP m, wideP m, bytesAt m (kP m + 4) (sizeP m)⟩ := by
  rw [parse_rest h1 h2]
  unfold restP
  unfold bad3 at h3
  exact (if_neg (fun h => h3 (.inl h))).trans ((if_neg (fun h => h3 (.inr h))).trans (if_neg h))
end Go.Proofs.Ytfdjkdiebabimaa.Bp
namespace Go.Proofs.Ytfdjkdiebabimaa.Sh
open Go Go.V Go.RowKit Go.Proofs.Ytfdjkdiebabimaa.Bp

/-- The reader's cells. -/
def rdC (sl : Value) (k id : Nat) (wide : Bool) (dv : Value) (size : Nat) : List Value := [sl, .int .i64 (k : Int), .int .u32 (id : Int), .bool wide, dv, .int .i64 (size : Int)]
theorem left {b n c k id size : Nat} {p : Option Addr} {wide : Bool} {dv : Value} {w : World} (hb : Blk w b (rdC (.slice p n c) k id wide dv size) 127) (hk : k ≤ n) (hn : n ≤ 1073741824) :
    Does Try.prog 62 [.pointer (some ⟨b, 0, none⟩)] w fun r w' => Ext w w' ∧ r = .int .i64 ((n - k : Nat) : Int) := by
  refine D62 ?_
  unfold S62
  intro w1 e1
  have b1 := hb.ext e1
  rw [Pure.runQ p_nil, Pure.runQ (p_field (o := 0) fld127_0), ld1Q b1 one52 (o := 0 + 0) rfl, Pure.runQ (p_len sl52.slice), Pure.runQ p_nil, Pure.runQ (p_field (o := 0) fld127_1), ld1Q b1 one3 (o := 0 + 1) rfl, sub_q, wrap64_id (by omega) (by omega)]
  exact ⟨e1, by congr 1; omega⟩
/-- What n bits taken answer and leave. -/
structure TakeR (b : Nat) (sl : Value) (l : List Bool) (k n id : Nat) (wide : Bool) (dv : Value) (size : Nat) (w : World) (r : Value) (w' : World) : Prop where
  mod : Mod [b] w w'
  val : r = .int .u32 (numP (cut l k n) : Int)
  blk : Blk w' b (rdC sl (k + n) id wide dv size) 127
theorem take {m : Mem} {sl : Value} {l : List Bool} {b k n id size : Nat} {wide : Bool} {dv : Value} {w : World} (hm : Sub m w) (hl : Bits m sl l) (hb : Blk w b (rdC sl k id wide dv size) 127) (h1 : 1 ≤ n) (h32 : n ≤ 32) (hk : k + n ≤ l.length) (hn : l.length ≤ 1073741824) :
    Does Try.prog 51 [.pointer (some ⟨b, 0, none⟩), .int .i64 (n : Int)] w (TakeR b sl l k n id wide dv size w) := by
  obtain ⟨p, c, rfl, hc⟩ := hl.form
  obtain ⟨x0, hx0⟩ : ∃ x, l[k]? = some x := ⟨l[k], by simp⟩
  obtain ⟨bl, ol, cs0, rfl, _⟩ := hl.get hx0
  refine D51 ?_
  unfold S51
  intro w1 e1
  have b1 := hb.ext e1
  rw [Pure.runQ p_nil, Pure.runQ (p_field (o := 0) fld127_0), ld1Q b1 one52 (o := 0 + 0) rfl, Pure.runQ p_nil, Pure.runQ (p_field (o := 0) fld127_1), ld1Q b1 one3 (o := 0 + 1) rfl, Pure.runQ p_nil, Pure.runQ (p_field (o := 0) fld127_1), ld1Q b1 one3 (o := 0 + 1) rfl, add_q, wrap64_id (by omega) (by omega),
    Pure.runQ (p_sliceL (k := (k : Int)) (h := (k : Int) + (n : Int)) sl52.slice size4 (by omega) (by omega) (by omega)), Pure.runQ (p_len sl52.slice), if_neg (by omega)]
  have e0 : ((k : Int) + (n : Int)).toNat - (k : Int).toNat = n := by omega
  rw [e0, show ol + (k : Int).toNat * 1 = ol + k by simp]
  simp only [JoinP.eq]
  refine LoopP.of2 (fun v i w' => ∃ j : Nat, j ≤ n ∧ i = .int .i64 j ∧ v = .int .u32 (numP (cut l k j) : Int) ∧ Ext w w') (fun _ i _ => n - (intOf i).toNat) ⟨0, Nat.zero_le _, rfl, by simp [cut, numP], e1⟩ ?_
  rintro _ _ w2 ⟨j, hj, rfl, rfl, e2⟩
  simp only [lss_r]
  refine CondP.dec (fun h => ?_) (fun h => ?_)
  · have hj' : j < n := by omega
    obtain ⟨x, hx⟩ : ∃ x, l[k + j]? = some x := ⟨l[k + j], by simp⟩
    obtain ⟨bl', ol', cs, hp, _, _, _, hat, rfl⟩ := hl.get hx
    injection hp with hp
    injection hp with h3 h4
    subst h3; subst h4
    try simp only [JoinP.eq]
    rw [Pure.run (p_idx (e := 4) (sz := 1) sl52.slice size4 (by omega) (by omega))]
    refine r_load1 one4 (v := .bool x) (by
      have := hat w2 (hm.ext e2) 0 _ rfl
      simpa [Nat.add_assoc] using this) ?_
    have hlt := cut_lt l k j
    have hlt2 : numP (cut l k j) * 2 < 4294967296 := by
      have : 2 ^ j ≤ 2 ^ 31 := Nat.pow_le_pow_right (by decide) (by omega)
      omega
    rw [show (1 : Int) = ((1 : Nat) : Int) from rfl, Pure.run (p_shlN (n := 1) k32 (by decide)), show numP (cut l k j) * 2 ^ 1 % 2 ^ IntKind.bits .u32 = numP (cut l k j) * 2 by simp [IntKind.bits]; omega]
    have hs := cut_snoc hx
    refine CondP.of (fun hxx => ?_) (fun hxx => ?_)
    · rw [Pure.run (p_or (b := 1) k32 (by simp [IntKind.bits]; omega) (by decide))]
      simp only [add_r]
      refine ⟨⟨j + 1, by omega, succ64 (by omega), ?_, e2⟩, ?_⟩
      · rw [hs, num_snoc, hxx]
        have := Nat.two_pow_add_eq_or_of_lt (i := 1) (b := 1) (by decide) (numP (cut l k j))
        rw [Nat.mul_comm] at this
        simp only [Nat.pow_one] at this
        rw [← this]; rfl
      · have := succ64 (k := j) (by omega)
        rw [show ((1 : Nat) : Int) = 1 from rfl, this]; simp [intOf]; omega
    · simp only [add_r]
      refine ⟨⟨j + 1, by omega, succ64 (by omega), ?_, e2⟩, ?_⟩
      · rw [hs, num_snoc, hxx]; rfl
      · have := succ64 (k := j) (by omega)
        rw [show ((1 : Nat) : Int) = 1 from rfl, this]; simp [intOf]; omega
  · have hj' : j = n := by omega
    subst hj'
    have b2 := hb.ext e2
    rw [nil_r, Pure.run (p_field (o := 0) fld127_1), ld1 b2 one3 (o := 0 + 1) rfl, add_r, nil_r, Pure.run (p_field (o := 0) fld127_1)]
    rw [wrap64_id (by omega) (by omega)]
    refine r_store size3 (l := [.int .i64 ((k + j : Nat) : Int)]) rfl rfl (all_one rfl) b2 (show 0 + 1 + 1 ≤ 6 by decide) fun w3 c3 b3 => ?_
    exact ⟨(Mod.ext e2).trans (Mod.one c3), rfl, b3⟩
end Go.Proofs.Ytfdjkdiebabimaa.Sh
