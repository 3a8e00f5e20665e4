/- Stuffing and the wire. Conditions: lengths up to 2^20. -/
import Derived.Test.YtfdjkdiebabimaaBt
set_option linter.unusedVariables false
set_option linter.unusedSimpArgs false
set_option maxRecDepth 10000
namespace Go.Proofs.Ytfdjkdiebabimaa.Sh
open Go Go.V Go.RowKit Go.Proofs.Ytfdjkdiebabimaa.Bp

theorem stuff_len : ∀ (l : List Bool) (s : Bool × Nat), (stuffP s l).length ≤ 2 * l.length
  | [], _ => by simp [stuffP]
  | b :: l, s => by
    unfold stuffP
    split
    · have := stuff_len l (!b, 1); simp; omega
    · have := stuff_len l (see s b); simp; omega
theorem wire_len (l : List Bool) : (wireP l).length ≤ 2 * l.length + 10 := by
  have := stuff_len l (false, 0)
  simp [wireP]; omega
/-- What is alike behind a part of a row. -/
def stS : Bool × Nat → List Bool → Bool × Nat
  | s, [] => s
  | s, b :: l => stS (if (see s b).2 = 5 then (!b, 1) else see s b) l
theorem stuff_snoc : ∀ (l : List Bool) (s : Bool × Nat) (b : Bool), stuffP s (l ++ [b]) = stuffP s l ++ (if (see (stS s l) b).2 = 5 then [b, !b] else [b])
  | [], s, b => by
    show stuffP s [b] = if (see s b).2 = 5 then [b, !b] else [b]
    by_cases h : (see s b).2 = 5
    · rw [if_pos h]; simp [stuffP, h]
    · rw [if_neg h]; simp [stuffP, h]
  | x :: l, s, b => by
    simp only [List.cons_append, stuffP, stS]
    split
    · rw [stuff_snoc l]; simp
    · rw [stuff_snoc l]; simp
theorem stS_snoc : ∀ (l : List Bool) (s : Bool × Nat) (b : Bool), stS s (l ++ [b]) = if (see (stS s l) b).2 = 5 then (!b, 1) else see (stS s l) b
  | [], s, b => rfl
  | x :: l, s, b => stS_snoc l _ b
theorem stS_lt : ∀ (l : List Bool) (s : Bool × Nat), s.2 < 5 → (stS s l).2 < 5
  | [], s, h => h
  | x :: l, s, h => by
    refine stS_lt l _ ?_
    split
    · show 1 < 5; decide
    · rename_i hn
      unfold see at hn ⊢
      split
      · rename_i hh; rw [if_pos hh] at hn; simp only at hn ⊢; omega
      · show 1 < 5; decide
theorem bRun (b : Bool) (n : Int) (w : World) : (Instr.build 144 #[(0, .bool b), (1, .int .i64 n)]).run Try.prog w = .ok (.agg #[.bool b, .int .i64 n]) w := by kernel_rfl
theorem stuff {m : Mem} {v : Value} {l : List Bool} {w : World} (hm : Sub m w) (hl : Bits m v l) (hn : l.length ≤ 1048576) :
    Does Try.prog 49 [v] w fun r w' => OBits w' r (stuffP (false, 0) l) ∧ Ext w w' ∧ ∀ k, r.ownBlock = some k → w.heap.size ≤ k := by
  obtain ⟨p, c, rfl, hc⟩ := hl.form
  refine D49 ?_
  unfold S49
  simp only [Pure.run (p_len sl52.slice), Pure.run (p_quo (show (4 : Int) ≠ 0 by decide)), add_r]
  have hq : (0 : Int) ≤ (l.length : Int).tdiv 4 ∧ (l.length : Int).tdiv 4 ≤ 1048576 := by
    rw [Int.tdiv_eq_ediv_of_nonneg (by omega)]; omega
  rw [wrap64_id (x := (l.length : Int).tdiv 4) (by omega) (by omega), wrap64_id (x := (l.length : Int) + (l.length : Int).tdiv 4) (by omega) (by omega), wrap64_id (x := (l.length : Int) + (l.length : Int).tdiv 4 + 1) (by omega) (by omega)]
  refine r_make sl52 zero4 (Int.le_refl _) (by omega) (by omega) (by omega) fun w1 g ys hg e1 _ ho1 _ => ?_
  refine r_alloc zero144 fun w2 e2 z2 b2 => ?_
  have e02 := e1.trans e2
  try simp only [Pure.run (p_len sl52.slice), JoinP.eq]
  have hgw : ∀ (u : Value), Grw w1 w1 (.slice (some ⟨g, 0, none⟩) 0 ((l.length : Int) + (l.length : Int).tdiv 4 + 1).toNat) u → True := fun _ _ => trivial
  refine LoopP.of2 (fun u i w' => ∃ k : Nat, k ≤ l.length ∧ i = .int .i64 k ∧ OBits w' u (stuffP (false, 0) (l.take k)) ∧ Ext w w' ∧ (∀ k, u.ownBlock = some k → w.heap.size ≤ k) ∧ Blk w' w1.heap.size (runC (stS (false, 0) (l.take k))) 144) (fun _ i _ => l.length - (intOf i).toNat)
    ⟨0, Nat.zero_le _, rfl, by simpa [stuffP, OBits, bvals] using ho1.ext e2, e02, fun k hk => by simp [Value.ownBlock] at hk; omega, b2⟩ ?_
  rintro u _ w3 ⟨k, hk, rfl, ho, hx, hlow, hb⟩
  simp only [lss_r]
  refine CondP.dec (fun h => ?_) (fun h => ?_)
  · have hk' : k < l.length := by omega
    obtain ⟨x, hs⟩ : ∃ x, l[k]? = some x := ⟨l[k], by simp [hk']⟩
    obtain ⟨bl, ol, cs, rfl, _, _, _, hat, rfl⟩ := hl.get hs
    have hsl := stuff_len (l.take k) (false, 0)
    have hst := stS_lt (l.take k) (false, 0) (by decide)
    have htk : l.take (k + 1) = l.take k ++ [x] := by rw [List.take_succ_eq_append_getElem hk', (List.getElem?_eq_some_iff.1 hs).2]
    have hlt : (l.take k).length ≤ 1048576 := by rw [List.length_take]; omega
    try simp only [JoinP.eq]
    rw [Pure.run (p_idx (e := 4) (sz := 1) sl52.slice size4 (by omega) (by omega))]
    refine r_load1 one4 (v := .bool x) (hat w3 (hm.ext hx) 0 _ rfl) ?_
    refine r_append1 sl52 ho rfl (all_one rfl) (by unfold maxLen; omega) (by omega) fun u1 w4 ho4 hg4 => ?_
    have ho4 : OBits w4 u1 (stuffP (false, 0) (l.take k) ++ [x]) := by
      unfold OBits bvals; rw [List.length_append, List.map_append]; exact ho4
    have hne : ∀ (u : Value) (l' : List Bool) (w' : World), OBits w' u l' → Blk w' w1.heap.size (runC (stS (false, 0) (l.take k))) 144 → u.ownBlock ≠ some w1.heap.size := by
      intro u l' w' ho hb he
      rcases ho.2 with ⟨rfl, _⟩ | ⟨g', cap, ys, rfl, _, _, _, h1⟩
      · simp [Value.ownBlock] at he
      · simp [Value.ownBlock] at he
        subst he
        unfold Blk at h1 hb
        rw [hb] at h1
        injection h1 with h
        injection h with _ h2
        exact absurd h2 (by decide)
    have hb4 : Blk w4 w1.heap.size (runC (stS (false, 0) (l.take k))) 144 := (hg4.block _ hb.lt (fun e => hne _ _ _ ho hb e.symm)).trans hb
    obtain ⟨hx4, hlow4⟩ := hg4.grw.isExt hx hlow
    refine GoN.does pl61 (see_ hb4 (by omega)) ?_
    rintro _ w5 ⟨rfl, c5, b5⟩
    have hx5 : Ext w w5 := hx4.chg c5 (by have := e1.size; omega)
    have ho5 : OBits w5 u1 (stuffP (false, 0) (l.take k) ++ [x]) := ho4.chg c5 (fun e => hne _ _ _ ho4 hb4 e)
    have fin : ∀ (u' : Value) (w' : World), OBits w' u' (stuffP (false, 0) (l.take (k + 1))) → Ext w w' → (∀ k, u'.ownBlock = some k → w.heap.size ≤ k) → Blk w' w1.heap.size (runC (stS (false, 0) (l.take (k + 1)))) 144 →
        (∃ k_1 : Nat, k_1 ≤ l.length ∧ Value.int .i64 (IntKind.i64.wrap ((k : Int) + 1)) = .int .i64 (k_1 : Nat) ∧ OBits w' u' (stuffP (false, 0) (l.take k_1)) ∧ Ext w w' ∧ (∀ k, u'.ownBlock = some k → w.heap.size ≤ k) ∧ Blk w' w1.heap.size (runC (stS (false, 0) (l.take k_1))) 144) ∧
        l.length - (intOf (Value.int .i64 (IntKind.i64.wrap ((k : Int) + 1)))).toNat < l.length - (intOf (.int .i64 (k : Int))).toNat := by
      intro u' w' f1 f2 f3 f4
      refine ⟨⟨k + 1, by omega, succ64 (by omega), f1, f2, f3, f4⟩, ?_⟩
      rw [succ64 (by omega)]; simp [intOf]; omega
    rw [htk, stuff_snoc, stS_snoc] at fin
    refine CondP.dec (fun h5 => ?_) (fun h5 => ?_)
    · rw [if_pos h5, if_pos h5] at fin
      simp only [not_r]
      refine r_append1 sl52 ho5 rfl (all_one rfl) (by unfold maxLen; simp; omega) (by simp; omega) fun u2 w6 ho6 hg6 => ?_
      have ho6 : OBits w6 u2 (stuffP (false, 0) (l.take k) ++ [x, !x]) := by
        rw [show stuffP (false, 0) (l.take k) ++ [x, !x] = (stuffP (false, 0) (l.take k) ++ [x]) ++ [!x] by simp]
        unfold OBits bvals; rw [List.length_append, List.map_append]; exact ho6
      have hne5 : u1.ownBlock ≠ some w1.heap.size := hne _ _ _ ho4 hb4
      have hb6 : Blk w6 w1.heap.size (runC (see (stS (false, 0) (l.take k)) x)) 144 := (hg6.block _ b5.lt (fun e => hne5 e.symm)).trans b5
      obtain ⟨hx6, hlow6⟩ := hg6.grw.isExt hx5 hlow4
      try simp only [not_r]
      rw [Run.eq (bRun _ _ _)]
      refine r_store size144 (l := [.bool (!x), .int .i64 1]) rfl rfl (all_one rfl) hb6 (show 0 + 2 ≤ 2 by decide) fun w7 c7 b7 => ?_
      have b7 : Blk w7 w1.heap.size (runC (!x, 1)) 144 := b7
      have hne6 : u2.ownBlock ≠ some w1.heap.size := by
        intro he
        rcases ho6.2 with ⟨rfl, _⟩ | ⟨g', cap, ys, rfl, _, _, _, h1⟩
        · simp [Value.ownBlock] at he
        · simp [Value.ownBlock] at he
          subst he
          unfold Blk at h1 hb6
          rw [hb6] at h1
          injection h1 with h
          injection h with _ h2
          exact absurd h2 (by decide)
      try simp only [add_r]
      exact fin u2 w7 (ho6.chg c7 hne6) (hx6.chg c7 (by have := e1.size; omega)) hlow6 b7
    · rw [if_neg h5, if_neg h5] at fin
      try simp only [add_r]
      exact fin u1 w5 ho5 hx5 hlow4 b5
  · have hk' : k = l.length := by omega
    subst hk'
    rw [List.take_length] at ho
    have hsl := stuff_len l (false, 0)
    obtain ⟨pu, cu, rfl, hcu⟩ := ho.len
    try simp only [Pure.run (p_len sl52.slice)]
    refine r_make sl52 zero4 (by omega) (Int.le_refl _) (by omega) (by omega) fun w4 g4 ys4 hg4 e4 hb4 ho4 hy => ?_
    have hy := hy rfl
    subst hy
    rw [show ((stuffP (false, 0) l).length : Int).toNat = (stuffP (false, 0) l).length from rfl] at hb4 ho4 ⊢
    refine r_copy sl52.slice size4 (by rw [List.append_nil] at hb4; exact hb4) (by have := ho4.1; simpa using this) (ho.ext e4) (by
      intro u hu
      obtain ⟨b, _, rfl⟩ := List.mem_map.1 hu
      rfl) fun r w5 c5 hb5 => ?_
    have hx4 := hx.trans e4
    have hgw : w.heap.size ≤ g4 := by rw [hg4]; exact hx.size
    refine ⟨⟨by simp [bvals], .inr ⟨g4, _, [], rfl, Nat.le_refl _, by simp [maxLen]; omega, by simp [bvals], by simpa using hb5⟩⟩, hx4.chg c5 hgw, fun k hk => by simp [Value.ownBlock] at hk; omega⟩
theorem wire {m : Mem} {v : Value} {l : List Bool} {w : World} (hm : Sub m w) (hl : Bits m v l) (hn : l.length ≤ 1048576) :
    Does Try.prog 36 [v] w fun r w' => OBits w' r (wireP l) ∧ Ext w w' ∧ ∀ k, r.ownBlock = some k → w.heap.size ≤ k := by
  have hsl := stuff_len l (false, 0)
  refine D36 ?_
  unfold S36
  refine GoN.does pl49 (stuff hm hl hn) ?_
  rintro u w1 ⟨ho, e1, hlow⟩
  refine GoN.does pl47 (put (x := 1023) (n := 10) ho (by decide) (by decide) (by omega)) ?_
  rintro r w2 ⟨ho2, hg⟩
  obtain ⟨h1, h2⟩ := hg.isExt e1 hlow
  exact ⟨ho2, h1, h2⟩
end Go.Proofs.Ytfdjkdiebabimaa.Sh
