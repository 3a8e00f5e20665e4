/- Frames encoded; stuffing taken out. Conditions: lengths up to 2^20. -/
import Derived.Test.YtfdjkdiebabimaaBv
set_option linter.unusedVariables false
set_option linter.unusedSimpArgs false
set_option maxRecDepth 10000
namespace Go.Proofs.Ytfdjkdiebabimaa.Sh
open Go Go.V Go.RowKit Go.Proofs.Ytfdjkdiebabimaa.Bp

/-- The error of Encode. -/
def errV (n : Int) : Value := if n = 0 then .nilIface else errno n
theorem encode {m : Mem} {v : Value} {f : DFr} {w : World} (hm : Sub m w) (hv : Bytes m v f.data) (hr : InR f) :
    Does Try.prog 17 [frA f v] w fun r w' => Ext w w' ∧ ∃ u, r = .tuple #[u, errV (encErr f)] := by
  refine D17 ?_
  unfold S17
  refine r_box fun w1 e1 z1 b1 => ?_
  have b1 : Blk w1 w.heap.size (frC f v) 35 := b1
  rw [ldN b1 agg35 (o := 0) rfl]
  refine GoN.does pl35 (bits (hm.ext e1) hv hr) ?_
  rintro r w2 ⟨e2, hbad, hgood⟩
  by_cases h : encErr f = 0
  · obtain ⟨u, rfl, ho, hlow⟩ := hgood h
    simp only [Pure.run (x2_0 _ _), Pure.run (x2_1 _ _), Pure.run (e_nilnil _), JoinP.eq, PickP.eq, GuardP.yes, GuardP.undef, GuardP.no (show (true == false) = false from rfl), GuardP.no (show (false == true) = false from rfl), CondP.tt, CondP.ff, add_r, sub_r, mul_r, lss_r, leq_r, gtr_r, geq_r, eql_r, neq_r, eqs_r, nes_r, not_r, nil_r, Bool.not_true, Bool.not_false, if_true, if_false, Bool.false_eq_true, decide_true, decide_false, Nat.zero_add, Bool.and_true, Bool.true_and]
    have hv := valid_of h hr
    have hl1 := bits_len f
    have hl2 := head_len f
    have hd := hv.data
    refine GoN.does pl36 (wire (Sub.self w2) ho.bits (by rw [hl1, hl2]; split <;> omega)) ?_
    rintro u' w3 ⟨_, e3, _⟩
    exact ⟨(e1.trans e2).trans e3, u', by unfold errV; rw [if_pos h]⟩
  · have := hbad h
    subst this
    simp only [Pure.run (x2_0 _ _), Pure.run (x2_1 _ _)]
    unfold errno
    simp only [Pure.run (e_nil _ _ _ _), JoinP.eq, PickP.eq, GuardP.yes, GuardP.undef, GuardP.no (show (true == false) = false from rfl), GuardP.no (show (false == true) = false from rfl), CondP.tt, CondP.ff, add_r, sub_r, mul_r, lss_r, leq_r, gtr_r, geq_r, eql_r, neq_r, eqs_r, nes_r, not_r, nil_r, Bool.not_true, Bool.not_false, if_true, if_false, Bool.false_eq_true, decide_true, decide_false, Nat.zero_add, Bool.and_true, Bool.true_and]
    exact ⟨e1.trans e2, _, by unfold errV errno; rw [if_neg h]⟩

theorem unstuff_cons (s : Bool × Nat) (b : Bool) (l : List Bool) : unstuffP s (b :: l) = if (see s b).2 = 5 then (match l with | [] => none | c :: l' => if c = b then none else (unstuffP (!b, 1) l').map (b :: ·)) else (unstuffP (see s b) l).map (b :: ·) := by
  cases l with
  | nil => simp only [unstuffP]; split <;> rfl
  | cons c l => simp only [unstuffP]
theorem bFault2 (a : Int) (w : World) (n : Int) : (Instr.build 147 #[(0, .int .i64 n), (2, .int .i64 a)]).run Try.prog w = .ok (.agg #[.int .i64 n, .int .i64 0, .int .i64 a]) w := by kernel_rfl
theorem iFault (v : Value) : Pure Try.prog (Instr.makeInterface 147 v) (.iface 147 v) := fun w => by kernel_rfl
/-- What Unstuff answers. -/
structure UnR (l : List Bool) (w : World) (r : Value) (w' : World) : Prop where
  ext : Ext w w'
  h : match unstuffP (false, 0) l with
    | some o => ∃ u, r = .tuple #[u, .nilIface] ∧ OBits w' u o ∧ (∀ k, u.ownBlock = some k → w.heap.size ≤ k) ∧ o.length ≤ l.length
    | none => ∃ t a, r = .tuple #[.slice none 0 0, .iface t a]
theorem see_lt (s : Bool × Nat) (b : Bool) (h : s.2 < 5) (h5 : ¬ (see s b).2 = 5) : (see s b).2 < 5 := by
  unfold see at h5 ⊢
  split
  · rename_i hh; rw [if_pos hh] at h5; simp only at h5 ⊢; omega
  · show 1 < 5; decide
theorem unstuff {m : Mem} {v : Value} {l : List Bool} {w : World} (hm : Sub m w) (hl : Bits m v l) (hn : l.length ≤ 1073741824) :
    Does Try.prog 52 [v] w (UnR l w) := by
  obtain ⟨p, c, rfl, hc⟩ := hl.form
  refine D52 ?_
  unfold S52
  refine r_alloc zero144 fun w1 e1 z1 b1 => ?_
  simp only [Pure.run (p_len sl52.slice)]
  rw [Pure.run (p_slice3 sl52.slice size4 (by omega) (Int.le_refl _) (by omega))]
  simp only [JoinP.eq, show ((l.length : Int)).toNat = l.length from rfl]
  refine LoopP.of4 (fun u _ _ rv w' => ∃ (j : Nat) (s : Bool × Nat) (o : List Bool), j ≤ l.length ∧ s.2 < 5 ∧ unstuffP (false, 0) l = (unstuffP s (l.drop j)).map (o ++ ·) ∧ o.length ≤ j ∧ OBits w' u o ∧ Ext w w' ∧ (∀ k, u.ownBlock = some k → w.heap.size ≤ k) ∧ Blk w' w.heap.size (runC s) 144 ∧
      (∃ p', rv = .slice p' (l.length - j) (l.length - j)) ∧ (∀ x, l[j]? = some x → ∃ b q, p = some ⟨b, q, none⟩ ∧ rv = .slice (some ⟨b, q + j, none⟩) (l.length - j) (l.length - j))) (fun _ _ _ rv _ => match rv with | .slice _ n _ => n | _ => 0)
    ⟨0, (false, 0), [], Nat.zero_le _, by decide, by simp, Nat.zero_le _, Own.nil _ _ _, e1, fun k hk => by simp [Value.ownBlock] at hk, b1, ⟨p, rfl⟩, fun x hx => by
      obtain ⟨bl, ol, cs, hp, _⟩ := hl.get hx
      exact ⟨bl, ol, hp, by rw [hp]; rfl⟩⟩ ?_
  rintro u t2 t3 _ w2 ⟨j, s, o, hj, hs5, hun, hol, ho, hx, hlow, hb, ⟨p', rfl⟩, hrv⟩
  simp only [Pure.run (p_len sl52.slice), gtr_r]
  refine CondP.dec (fun h => ?_) (fun h => ?_)
  · have hj' : j < l.length := by omega
    obtain ⟨x, hxj⟩ : ∃ x, l[j]? = some x := ⟨l[j], by simp [hj']⟩
    obtain ⟨b, q, rfl, hrv2⟩ := hrv x hxj
    injection hrv2 with hp1 _ _
    subst hp1
    have cellAt : ∀ (i : Nat) (y : Bool) (w' : World), l[i]? = some y → Ext w w' → w'.cell? ⟨b, q + i, none⟩ = some (.bool y) := by
      intro i y w' hi e
      obtain ⟨bl, ol, cs, hp, _, _, _, hat, hcs⟩ := hl.get hi
      injection hp with hp
      injection hp with h1 h2
      subst h1; subst h2
      have hcs : cs = [Value.bool y] := hcs
      subst hcs
      have := hat w' (hm.ext e) 0 _ rfl
      simpa using this
    have hdrop : l.drop j = x :: l.drop (j + 1) := by
      rw [List.drop_eq_getElem_cons hj']; congr 1; exact (List.getElem?_eq_some_iff.1 hxj).2
    rw [hdrop, unstuff_cons] at hun
    try simp only [JoinP.eq]
    have h0 : (0 : Int) < ((l.length - j : Nat) : Int) := by omega
    rw [Pure.run (p_idx (e := 4) (sz := 1) (i := 0) sl52.slice size4 (Int.le_refl _) h0)]
    refine r_load1 one4 (v := .bool x) (by simpa using cellAt j x w2 hxj hx) ?_
    try simp only [Pure.run (p_len sl52.slice)]
    rw [Pure.run (p_sliceL3 (k := 1) sl52.slice size4 (by decide) (by omega) (Int.le_refl _) (Int.le_refl _))]
    refine r_append1 sl52 ho rfl (all_one rfl) (by unfold maxLen; omega) (by omega) fun u1 w3 ho3 hg3 => ?_
    have ho3 : OBits w3 u1 (o ++ [x]) := by
      unfold OBits bvals; rw [List.length_append, List.map_append]; exact ho3
    have hne : ∀ (u : Value) (l' : List Bool) (w' : World) (s' : Bool × Nat), OBits w' u l' → Blk w' w.heap.size (runC s') 144 → u.ownBlock ≠ some w.heap.size := by
      intro u l' w' s' ho hb he
      rcases ho.2 with ⟨rfl, _⟩ | ⟨g', cap, ys, rfl, _, _, _, h1⟩
      · simp [Value.ownBlock] at he
      · simp [Value.ownBlock] at he
        subst he
        unfold Blk at h1 hb
        rw [hb] at h1
        injection h1 with h
        injection h with _ h2
        exact absurd h2 (by decide)
    have hb3 : Blk w3 w.heap.size (runC s) 144 := (hg3.block _ hb.lt (fun e => hne _ _ _ _ ho hb e.symm)).trans hb
    obtain ⟨hx3, hlow3⟩ := hg3.grw.isExt hx hlow
    refine GoN.does pl61 (see_ hb3 (by omega)) ?_
    rintro _ w4 ⟨rfl, c4, b4⟩
    have hx4 : Ext w w4 := hx3.chg c4 (Nat.le_refl _)
    have ho4 : OBits w4 u1 (o ++ [x]) := ho3.chg c4 (hne _ _ _ _ ho3 hb3)
    try simp only [not_r]
    have e1m : (((l.length - j : Nat) : Int).toNat - Int.toNat 1) = l.length - (j + 1) := by omega
    rw [e1m]
    have hrest : ∀ y, l[j + 1]? = some y → (Value.slice (some ⟨b, if ((l.length - j : Nat) : Int) = 1 then q + j else q + j + Int.toNat 1 * 1, none⟩) (l.length - (j + 1)) (l.length - (j + 1))) = .slice (some ⟨b, q + (j + 1), none⟩) (l.length - (j + 1)) (l.length - (j + 1)) := by
      intro y hy
      have := (List.getElem?_eq_some_iff.1 hy).1
      rw [if_neg (by omega)]; rfl
    generalize hrs : (Value.slice (some ⟨b, if ((l.length - j : Nat) : Int) = 1 then q + j else q + j + Int.toNat 1 * 1, none⟩) (l.length - (j + 1)) (l.length - (j + 1))) = rs at *
    have hrs' : ∃ p', rs = .slice p' (l.length - (j + 1)) (l.length - (j + 1)) := ⟨_, hrs.symm⟩
    by_cases h5 : (see s x).2 = 5
    · rw [if_pos h5] at hun
      rw [decide_eq_true h5]
      simp only [Bool.not_true, CondP.ff]
      obtain ⟨p2, rfl⟩ := hrs'
      simp only [Pure.run (p_len sl52.slice), sub_r, eql_r]
      refine CondP.dec (fun h6 => ?_) (fun h6 => ?_)
      · have hend : l.drop (j + 1) = [] := List.drop_eq_nil_of_le (by omega)
        rw [hend] at hun
        rw [Run.eq (bFault2 _ _ _), Pure.run (iFault _)]
        refine ⟨hx4, ?_⟩
        rw [hun]
        exact ⟨_, _, rfl⟩
      · have hj1 : j + 1 < l.length := by omega
        obtain ⟨y, hy⟩ : ∃ y, l[j + 1]? = some y := ⟨l[j + 1], by simp [hj1]⟩
        have hrs2 := hrest y hy
        injection hrs2 with hp2 _ _
        subst hp2
        have hdrop2 : l.drop (j + 1) = y :: l.drop (j + 2) := by
          rw [List.drop_eq_getElem_cons hj1]; congr 1; exact (List.getElem?_eq_some_iff.1 hy).2
        rw [hdrop2] at hun
        simp only at hun
        have h1 : (0 : Int) < ((l.length - (j + 1) : Nat) : Int) := by omega
        show Run _ _ _ _
        rw [Pure.run (p_idx (e := 4) (sz := 1) (i := 0) sl52.slice size4 (Int.le_refl _) h1)]
        refine r_load1 one4 (v := .bool y) (by simpa using cellAt (j + 1) y w4 hy hx4) ?_
        rw [eqb_r]
        refine CondP.dec (fun h7 => ?_) (fun h7 => ?_)
        · rw [if_pos h7] at hun
          rw [Run.eq (bFault2 _ _ _), Pure.run (iFault _)]
          refine ⟨hx4, ?_⟩
          rw [hun]
          exact ⟨_, _, rfl⟩
        · rw [if_neg h7] at hun
          try simp only [not_r]
          rw [Run.eq (bRun _ _ _)]
          refine r_store size144 (l := [.bool (!x), .int .i64 1]) rfl rfl (all_one rfl) b4 (show 0 + 2 ≤ 2 by decide) fun w5 c5 b5 => ?_
          have b5 : Blk w5 w.heap.size (runC (!x, 1)) 144 := b5
          try simp only [Pure.run (p_len sl52.slice)]
          rw [Pure.run (p_sliceL3 (k := 1) sl52.slice size4 (by decide) (by omega) (Int.le_refl _) (Int.le_refl _))]
          have e2m : (((l.length - (j + 1) : Nat) : Int).toNat - Int.toNat 1) = l.length - (j + 2) := by omega
          rw [e2m]
          refine ⟨⟨j + 2, (!x, 1), o ++ [x], by omega, show (1 : Nat) < 5 by decide, ?_, by simp; omega, ho4.chg c5 (hne _ _ _ _ ho4 b4), hx4.chg c5 (Nat.le_refl _), (hg3.grw.isExt hx hlow).2, b5, ⟨_, rfl⟩, fun z hz => ⟨b, q, rfl, ?_⟩⟩, ?_⟩
          · rw [hun, Option.map_map]; congr 1; funext z; simp
          · have := (List.getElem?_eq_some_iff.1 hz).1
            rw [if_neg (by omega)]; rfl
          · show l.length - (j + 2) < l.length - j
            omega
    · rw [if_neg h5] at hun
      rw [decide_eq_false h5]
      simp only [Bool.not_false, CondP.tt]
      refine ⟨⟨j + 1, see s x, o ++ [x], by omega, see_lt s x hs5 h5, ?_, by simp; omega, ho4, hx4, hlow3, b4, hrs', fun z hz => ⟨b, q, rfl, hrest z hz⟩⟩, ?_⟩
      · rw [hun, Option.map_map]; congr 1; funext z; simp
      · obtain ⟨p2, rfl⟩ := hrs'
        show l.length - (j + 1) < l.length - j
        omega
  · have hj' : j = l.length := by omega
    subst hj'
    rw [List.drop_length] at hun
    simp only [unstuffP, Option.map_some, List.append_nil] at hun
    refine ⟨hx, ?_⟩
    rw [hun]
    exact ⟨u, rfl, ho, hlow, hol⟩
end Go.Proofs.Ytfdjkdiebabimaa.Sh
