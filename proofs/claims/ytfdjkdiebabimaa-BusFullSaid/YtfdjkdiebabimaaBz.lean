/- Frames decoded. Conditions: lengths up to 2^30. -/
import Derived.Test.YtfdjkdiebabimaaBy
set_option linter.unusedVariables false
set_option linter.unusedSimpArgs false
set_option maxRecDepth 10000
namespace Go.Proofs.Ytfdjkdiebabimaa.Sh
open Go Go.V Go.RowKit Go.Proofs.Ytfdjkdiebabimaa.Bp

theorem bRd2 (p : Option Addr) (n c : Nat) (k : Int) (w : World) : (Instr.build 127 #[(0, .slice p n c), (1, .int .i64 k)]).run Try.prog w = .ok (.agg #[.slice p n c, .int .i64 k, .int .u32 0, .bool false, .slice none 0 0, .int .i64 0]) w := by kernel_rfl
theorem bRd1 (p : Option Addr) (n c : Nat) (w : World) : (Instr.build 127 #[(0, .slice p n c)]).run Try.prog w = .ok (.agg #[.slice p n c, .int .i64 0, .int .u32 0, .bool false, .slice none 0 0, .int .i64 0]) w := by kernel_rfl
theorem bFr0 : Pure Try.prog (Instr.build 35 #[]) (frA DFr.zero (.slice none 0 0)) := fun w => by kernel_rfl
theorem iFn (f : FuncId) (v : Value) : Pure Try.prog (Instr.makeFunc (Go.Fn.func f) #[v] #[]) (.func (.func f) #[v] #[]) := fun w => by kernel_rfl
theorem bFns (a b c d e : FuncId) (x : Value) (w : World) : (Instr.buildSlice 131 5 #[(0, .func (.func a) #[x] #[]), (1, .func (.func b) #[x] #[]), (2, .func (.func c) #[x] #[]), (3, .func (.func d) #[x] #[]), (4, .func (.func e) #[x] #[])]).run Try.prog w = .ok (.slice (some ⟨w.heap.size, 0, none⟩) 5 5) (w.alloc (.cells #[.func (.func a) #[x] #[], .func (.func b) #[x] #[], .func (.func c) #[x] #[], .func (.func d) #[x] #[], .func (.func e) #[x] #[]] 122)) := by kernel_rfl
def fnV (f : FuncId) (x : Value) : Value := .func (.func f) #[x] #[]
def fnL (x : Value) : List Value := [fnV 53 x, fnV 54 x, fnV 55 x, fnV 56 x, fnV 57 x]
/-- Where the reader is before its j-th step. -/
def RdSt (sl : Value) (l : List Bool) (b B : Nat) (w : World) : Nat → Prop
  | 0 => Blk w b (rdC sl 0 0 false (.slice none 0 0) 0) 127
  | 1 => ¬ bad1 l ∧ Blk w b (rdC sl 14 (numP (cut l 1 11)) (wideP l) (.slice none 0 0) 0) 127
  | 2 => ¬ bad1 l ∧ ¬ bad2 l ∧ Blk w b (rdC sl (kP l) (idP l) (wideP l) (.slice none 0 0) 0) 127
  | 3 => ¬ bad1 l ∧ ¬ bad2 l ∧ ¬ bad3 l ∧ Blk w b (rdC sl (kP l + 4) (idP l) (wideP l) (.slice none 0 0) (sizeP l)) 127
  | 4 => ¬ bad1 l ∧ ¬ bad2 l ∧ ¬ bad3 l ∧ ∃ dv, OBytes w dv (bytesAt l (kP l + 4) (sizeP l)) ∧ (∀ g, dv.ownBlock = some g → B ≤ g) ∧ Blk w b (rdC sl (kP l + 4 + 8 * sizeP l) (idP l) (wideP l) dv (sizeP l)) 127
  | _ => ¬ bad1 l ∧ ¬ bad2 l ∧ ¬ bad3 l ∧ ¬ bad5 l ∧ ∃ dv, OBytes w dv (bytesAt l (kP l + 4) (sizeP l)) ∧ (∀ g, dv.ownBlock = some g → B ≤ g) ∧ Blk w b (rdC sl (kP l + 4 + 8 * sizeP l + 15) (idP l) (wideP l) dv (sizeP l)) 127
theorem not_bad2 {l : List Bool} (h : ¬ bad2 l) : kP l + 4 ≤ l.length := by
  unfold bad2 at h
  unfold kP
  cases hw : wideP l with
  | true => rw [hw, if_pos rfl] at h; rw [if_pos rfl]; have : ¬ l.length < 39 := fun hh => h (.inl hh); omega
  | false => rw [hw] at h; simp only [Bool.false_eq_true, if_false] at h ⊢; have : ¬ l.length < 19 := fun hh => h (.inl hh); omega
theorem not_bad3 {l : List Bool} (h : ¬ bad3 l) : sizeP l ≤ 8 ∧ l.length = kP l + 4 + 8 * sizeP l + 15 := by
  unfold bad3 at h
  have h1 : ¬ 8 < sizeP l := fun hh => h (.inl hh)
  have h2 : ¬ l.length ≠ kP l + 4 + 8 * sizeP l + 15 := fun hh => h (.inr hh)
  omega
theorem rd_step {m : Mem} {sl : Value} {l : List Bool} {b B : Nat} {w : World} (hm : Sub m w) (hl : Bits m sl l) (hn : l.length ≤ 1073741824) (ho : Off m b) (hB : B ≤ w.heap.size) {j : Nat} (hj : j < 5) (h : RdSt sl l b B w j) :
    ∃ f, (fnL (.pointer (some ⟨b, 0, none⟩)))[j]? = some (fnV f (.pointer (some ⟨b, 0, none⟩))) ∧ plainFn Try.prog f = true ∧ Does Try.prog f [.pointer (some ⟨b, 0, none⟩)] w fun r w' => Mod [b] w w' ∧ ((parseP l = none ∧ ∃ t a, r = .iface t a) ∨ (r = .nilIface ∧ RdSt sl l b B w' (j + 1))) := by
  rcases j with _ | _ | _ | _ | _ | j
  · refine ⟨_, rfl, pl53, (readId hm hl hn ho h).mono ?_⟩
    rintro r w' ⟨d, no, ok⟩
    refine ⟨d, ?_⟩
    by_cases hb : bad1 l
    · exact .inl ⟨parse_1 hb, no hb⟩
    · exact .inr ⟨(ok hb).1, hb, (ok hb).2⟩
  · obtain ⟨h1, hb⟩ := h
    have h14 : 14 ≤ l.length := by
      have : ¬ l.length < 14 := fun hh => h1 (.inl hh)
      omega
    refine ⟨_, rfl, pl54, (readRest hm hl hn ho h14 hb).mono ?_⟩
    rintro r w' ⟨d, no, ok⟩
    refine ⟨d, ?_⟩
    by_cases hb : bad2 l
    · exact .inl ⟨parse_2 h1 hb, no hb⟩
    · exact .inr ⟨(ok hb).1, h1, hb, (ok hb).2⟩
  · obtain ⟨h1, h2, hb⟩ := h
    refine ⟨_, rfl, pl55, (readLen hm hl hn ho (not_bad2 h2) hb).mono ?_⟩
    rintro r w' ⟨d, no, ok⟩
    refine ⟨d, ?_⟩
    by_cases hb : bad3 l
    · exact .inl ⟨parse_3 h1 h2 hb, no hb⟩
    · exact .inr ⟨(ok hb).1, h1, h2, hb, (ok hb).2⟩
  · obtain ⟨h1, h2, h3, hb⟩ := h
    obtain ⟨h8, hle⟩ := not_bad3 h3
    refine ⟨_, rfl, pl56, (readData hm hl hn ho h8 (by omega) hb).mono ?_⟩
    rintro r w' ⟨d, no, ok⟩
    refine ⟨d, .inr ⟨(ok (fun h => h)).1, h1, h2, h3, ?_⟩⟩
    obtain ⟨dv, a1, a2, a3⟩ := (ok (fun h => h)).2
    exact ⟨dv, a1, fun g hg => Nat.le_trans hB (a2 g hg), a3⟩
  · obtain ⟨h1, h2, h3, dv, hd, hlow, hb⟩ := h
    obtain ⟨h8, hle⟩ := not_bad3 h3
    refine ⟨_, rfl, pl57, (readSum hm hl hn ho (by omega) hb).mono ?_⟩
    rintro r w' ⟨d, no, ok⟩
    refine ⟨d, ?_⟩
    by_cases h5 : bad5 l
    · exact .inl ⟨parse_5 h1 h2 h3 h5, no h5⟩
    · refine .inr ⟨(ok h5).1, h1, h2, h3, h5, dv, hd.mod d ?_, hlow, (ok h5).2⟩
      intro g hg hh
      simp at hh; subst hh
      exact hd.ne hb (by decide) hg
  · omega
/-- What Decode answers. -/
structure DecR (l : List Bool) (w : World) (r : Value) (w' : World) : Prop where
  ext : Ext w w'
  h : match decodeP l with
    | none => ∃ t a, r = .tuple #[frA DFr.zero (.slice none 0 0), .iface t a]
    | some f => ∃ dv, r = .tuple #[frA f dv, .nilIface] ∧ OBytes w' dv f.data ∧ (∀ g, dv.ownBlock = some g → w.heap.size ≤ g) ∧ InR f
theorem dec_no {l : List Bool} {w w3 : World} {b2 : Nat} {cs : List Value} {t : TypeId} {a : Value} (hd : decodeP l = none) (e : Ext w w3) (hb : Blk w3 b2 cs 35) (hcs : cs.length = 3) (hlow : w.heap.size ≤ b2) :
    RunU Try.prog (Instr.storeAt 35 (.pointer (some ⟨b2, 0, none⟩)) (frA DFr.zero (.slice none 0 0))) w3 fun w' => resK Try.prog (.pointer (some ⟨b2, 0, none⟩)) 35 w' fun r0 => DecR l w (.tuple #[r0, .iface t a]) w' := by
  refine r_store size35 (l := frC DFr.zero (.slice none 0 0)) rfl rfl (all_one rfl) hb (by omega) fun w4 c4 b4 => ?_
  have b4 : Blk w4 b2 (frC DFr.zero (.slice none 0 0)) 35 := by
    have : splice cs 0 (frC DFr.zero (.slice none 0 0)) = frC DFr.zero (.slice none 0 0) := by
      unfold splice
      rw [List.drop_eq_nil_of_le (by simp [frC]; omega)]; simp
    rw [this] at b4; exact b4
  refine k_loadN agg35 (l := frC DFr.zero (.slice none 0 0)) rfl b4.at ⟨e.chg c4 hlow, ?_⟩
  rw [hd]
  exact ⟨_, _, rfl⟩
theorem id_lt (l : List Bool) : idP l < 4294967296 := by
  have hA := cut_lt l 1 11
  have hB := cut_lt l 14 18
  unfold idP
  split
  · have h1 : numP (cut l 1 11) * 262144 % 4294967296 < 2 ^ 32 := Nat.mod_lt _ (by decide)
    have := Nat.or_lt_two_pow h1 (y := numP (cut l 14 18)) (by omega)
    exact this
  · omega
theorem decode {m : Mem} {v : Value} {l : List Bool} {w : World} (hm : Sub m w) (hl : Bits m v l) (hn : l.length ≤ 1073741824) :
    Does Try.prog 45 [v] w (DecR l w) := by
  obtain ⟨p, c, rfl, hc⟩ := hl.form
  refine D45 ?_
  unfold S45
  refine r_alloc zero35 fun w1 e1 z1 b1 => ?_
  have no : ∀ {w3 : World} {t : TypeId} {a : Value}, decodeP l = none → Ext w w3 → Ext w1 w3 → RunU Try.prog (Instr.storeAt 35 (.pointer (some ⟨w.heap.size, 0, none⟩)) (frA DFr.zero (.slice none 0 0))) w3 fun w' => resK Try.prog (.pointer (some ⟨w.heap.size, 0, none⟩)) 35 w' fun r0 => DecR l w (.tuple #[r0, .iface t a]) w' :=
    fun hd e e' => dec_no hd e (b1.ext e') rfl (Nat.le_refl _)
  simp only [Pure.run (p_len sl52.slice), lss_r]
  refine CondP.dec (fun h => ?_) (fun h => ?_)
  · rw [Pure.run bFr0, Pure.run (i_err _)]
    exact no (by unfold decodeP; rw [if_pos (by omega)]) e1 (Ext.refl _)
  · have h10 : 10 ≤ l.length := by omega
    simp only [Pure.run (p_len sl52.slice), sub_r]
    rw [wrap64_id (by omega) (by omega), Run.eq (bRd2 _ _ _ _ _)]
    refine r_alloc zero127 fun w2 e2 z2 b2 => ?_
    refine r_store size127 (l := [.slice p l.length c, .int .i64 ((l.length : Int) - 10), .int .u32 0, .bool false, .slice none 0 0, .int .i64 0]) rfl rfl (all_one rfl) b2 (show 0 + 6 ≤ 6 by decide) fun w3 c3 b3 => ?_
    have b3 : Blk w3 w1.heap.size (rdC (.slice p l.length c) (l.length - 10) 0 false (.slice none 0 0) 0) 127 := by
      have e : ((l.length : Int) - 10) = ((l.length - 10 : Nat) : Int) := by omega
      rw [e] at b3; exact b3
    have x13 : Ext w1 w3 := e2.chg c3 (Nat.le_refl _)
    have m3 := (hm.ext e1).ext x13
    refine GoN.does pl51 (take (n := 10) m3 hl b3 (by omega) (by omega) (by omega) hn) ?_
    rintro _ w4 ⟨d4, rfl, b4⟩
    have x14 : Ext w1 w4 := Mod.new (S := [w1.heap.size]) ((Mod.ext x13).trans d4) (by simp)
    have m4 := (hm.ext e1).ext x14
    have hcut : cut l (l.length - 10) 10 = l.drop (l.length - 10) := by
      unfold cut; exact List.take_of_length_le (by simp; omega)
    rw [hcut, neq_r, show decide ((numP (l.drop (l.length - 10)) : Int) = 1023) = decide (numP (l.drop (l.length - 10)) = 1023) from decide_eq_decide.2 (by omega)]
    by_cases h1 : numP (l.drop (l.length - 10)) = 1023
    · rw [decide_eq_true h1]
      simp only [Bool.not_true, CondP.ff]
      try show Run _ _ _ _
      try simp only [Pure.run (p_len sl52.slice), sub_r]
      try rw [wrap64_id (by omega) (by omega)]
      rw [Pure.run (p_upto sl52.slice size4 (by omega) (by omega)), show ((l.length : Int) - 10).toNat = l.length - 10 by omega]
      have hdec : decodeP l = (unstuffP (false, 0) (l.take (l.length - 10))).bind parseP := by
        unfold decodeP; rw [if_neg (by omega), if_neg (fun hh => hh h1)]
      refine GoN.does pl52 (unstuff m4 (hl.take (k := l.length - 10) (by omega)) (by rw [List.length_take]; omega)) ?_
      rintro r w5 ⟨e5, hr⟩
      have x15 := x14.trans e5
      cases hu : unstuffP (false, 0) (l.take (l.length - 10)) with
      | none =>
        rw [hu] at hr
        obtain ⟨t, a, rfl⟩ := hr
        rw [Pure.run (x2_0 _ _), Pure.run (x2_1 _ _), Pure.run (e_nil _ _ _ _), CondP.tt, Pure.run bFr0]
        exact no (by rw [hdec, hu]; rfl) (e1.trans x15) x15
      | some o =>
        rw [hu] at hr
        obtain ⟨u, rfl, hou, hlow, hol⟩ := hr
        rw [Pure.run (x2_0 _ _), Pure.run (x2_1 _ _), Pure.run (e_nilnil _), CondP.ff]
        have hdec : decodeP l = parseP o := by rw [hdec, hu]; rfl
        have hou' := hou.bits
        have hol : o.length ≤ 1073741824 := by rw [List.length_take] at hol; omega
        obtain ⟨pu, cu, rfl, hcu⟩ := hou.len
        try show Run _ _ _ _
        rw [Run.eq (bRd1 _ _ _ _)]
        refine r_box fun w6 e6 z6 b6 => ?_
        have b6 : Blk w6 w5.heap.size (rdC (.slice pu o.length cu) 0 0 false (.slice none 0 0) 0) 127 := b6
        rw [Pure.run (iFn _ _), Pure.run (iFn _ _), Pure.run (iFn _ _), Pure.run (iFn _ _), Pure.run (iFn _ _)]
        refine r_lit (l := fnL (.pointer (some ⟨w5.heap.size, 0, none⟩))) (bFns _ _ _ _ _ _ _) fun w7 e7 z7 b7 => ?_
        have hm5 : Sub (memW w5) w7 := ((Sub.self w5).ext e6).ext e7
        have hoff : Off (memW w5) w5.heap.size := Off.of_dom (Dom.self w5) (Nat.le_refl _)
        have x17 : Ext w1 w7 := (x15.trans e6).trans e7
        simp only [Pure.run (p_len sl131.slice), JoinP.eq]
        refine LoopP.of2 (fun t3 i w' => ∃ j : Nat, j ≤ 5 ∧ t3 = .nilIface ∧ i = .int .i64 j ∧ Mod [w5.heap.size] w7 w' ∧ RdSt (.slice pu o.length cu) o w5.heap.size w.heap.size w' j) (fun _ i _ => 5 - (intOf i).toNat)
          ⟨0, by decide, rfl, rfl, Mod.refl _ _, b6.ext e7⟩ ?_
        rintro _ _ w8 ⟨j, hj, rfl, rfl, d8, hst⟩
        have hx8 : Ext w1 w8 := Mod.new (S := [w5.heap.size]) ((Mod.ext x17).trans d8) (by simp; exact x15.size)
        have hwl : w.heap.size ≤ w8.heap.size := Nat.le_trans e1.size hx8.size
        simp only [lss_r]
        refine CondP.dec (fun h => ?_) (fun h => ?_)
        · have hj' : j < 5 := by omega
          obtain ⟨f, hf1, hf2, hf3⟩ := rd_step (hm5.mod d8 (by simp; exact hoff)) hou' hol hoff hwl hj' hst
          try simp only [JoinP.eq]
          have b8 := b7.mod d8 (by simp; omega)
          rw [Pure.run (pIdx0 (e := 122) (sz := 1) sl131.slice size122 hj'), Nat.mul_one, ld1 b8 one122 hf1]
          refine GoN.bound (GoN.does hf2 hf3 ?_)
          rintro r w9 ⟨d9, hr⟩
          have d79 := d8.trans d9
          have hx9 : Ext w1 w9 := Mod.new (S := [w5.heap.size]) ((Mod.ext x17).trans d79) (by simp; exact x15.size)
          rcases hr with ⟨hpn, t, a, rfl⟩ | ⟨rfl, hst'⟩
          · rw [Pure.run (e_nil _ _ _ _), CondP.tt, Pure.run bFr0]
            exact no (by rw [hdec, hpn]) (e1.trans hx9) hx9
          · rw [Pure.run (e_nilnil _), CondP.ff]
            simp only [add_r]
            refine ⟨⟨j + 1, by omega, by trivial, succ64 (by omega), d79, hst'⟩, ?_⟩
            rw [succ64 (by omega)]; simp [intOf]; omega
        · have hj' : j = 5 := by omega
          subst hj'
          obtain ⟨h1, h2, h3, h5, dv, hdv, hlow5, hb8⟩ := hst
          rw [nil_r, Pure.run (p_field (o := 0) fld127_2), ldN hb8 agg35 (o := 0 + 2) rfl]
          have b18 := b1.ext hx8
          refine r_store size35 (l := frC ⟨idP o, wideP o, bytesAt o (kP o + 4) (sizeP o)⟩ dv) rfl rfl (by
            intro x hx
            obtain ⟨p', c', rfl, _⟩ := hdv.len
            simp [frC] at hx
            rcases hx with rfl | rfl | rfl <;> rfl) b18 (show 0 + 3 ≤ 3 by decide) fun w9 c9 b9 => ?_
          have b9 : Blk w9 w.heap.size (frC ⟨idP o, wideP o, bytesAt o (kP o + 4) (sizeP o)⟩ dv) 35 := b9
          refine k_loadN agg35 (l := frC ⟨idP o, wideP o, bytesAt o (kP o + 4) (sizeP o)⟩ dv) rfl b9.at ⟨(e1.trans hx8).chg c9 (Nat.le_refl _), ?_⟩
          rw [hdec, parse_ok h1 h2 h3 h5]
          refine ⟨dv, rfl, hdv.chg c9 (hdv.ne b18 (by decide)), hlow5, ⟨id_lt o, bytes_atlt o _ _, by rw [bytes_atlen]; have := (not_bad3 h3).1; omega⟩⟩
    · rw [decide_eq_false h1]
      simp only [Bool.not_false, CondP.tt]
      rw [Pure.run bFr0, Pure.run (i_err _)]
      exact no (by unfold decodeP; rw [if_neg (by omega), if_pos h1]) (e1.trans x14) x14
end Go.Proofs.Ytfdjkdiebabimaa.Sh
