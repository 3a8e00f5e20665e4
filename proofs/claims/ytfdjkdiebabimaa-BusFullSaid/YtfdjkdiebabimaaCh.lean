/- A frame goes; a tick. Conditions: lengths up to 2^29. -/
import Derived.Test.YtfdjkdiebabimaaCg
set_option linter.unusedVariables false
set_option linter.unusedSimpArgs false
set_option maxRecDepth 10000
namespace Go.Proofs.Ytfdjkdiebabimaa.Sh
open Go Go.V Go.RowKit Go.Proofs.Ytfdjkdiebabimaa.Bp

structure DWire where
  lost : Bool
  twice : Bool
  late : Int
  flips : List Int
def wireC (x : DWire) (v : Value) : List Value := [.bool x.lost, .bool x.twice, .int .i64 x.late, v]
abbrev wireA (x : DWire) (v : Value) : Value := .agg (wireC x v).toArray
abbrev RInt (cs : List Value) (x : Int) : Prop := cs = [Value.int .i64 x]
abbrev Ints (m : Mem) (v : Value) (l : List Int) : Prop := Sl m 1 RInt v l
def flipP (l : List Bool) (n : Int) : List Bool := if 0 ≤ n ∧ n < (l.length : Int) then l.set n.toNat (!(l[n.toNat]?.getD false)) else l
def flipsP (l : List Bool) (ns : List Int) : List Bool := ns.foldl flipP l
theorem flipP_len (l : List Bool) (n : Int) : (flipP l n).length = l.length := by unfold flipP; split <;> simp
theorem flipsP_len : ∀ (ns : List Int) (l : List Bool), (flipsP l ns).length = l.length
  | [], _ => rfl
  | n :: ns, l => by
    show (flipsP (flipP l n) ns).length = l.length
    rw [flipsP_len ns, flipP_len]
theorem flips_snoc {l : List Bool} {ns : List Int} {k : Nat} {n : Int} (h : ns[k]? = some n) : flipsP l (ns.take (k + 1)) = flipP (flipsP l (ns.take k)) n := by
  have hk := (List.getElem?_eq_some_iff.1 h).1
  unfold flipsP
  rw [List.take_succ_eq_append_getElem hk, (List.getElem?_eq_some_iff.1 h).2, List.foldl_append]
  rfl
def goneS (s : PS) : PS := { s with out := s.out.tail, sent := inc s.sent }
def goesP (N : Nat) (ss : List PS) (j : Nat) (f : DFr) (x : DWire) : List PS × List DLate :=
  match ss[j]? with
  | none => (ss, [])
  | some s =>
    if x.lost then (ss.set j (goneS s), []) else
    if 0 < x.late then (ss.set j (goneS s), [⟨(j : Int), flipsP (bitsP f) x.flips, x.twice, x.late⟩]) else
    (comesP N ⟨(j : Int), flipsP (bitsP f) x.flips, x.twice, x.late⟩ (ss.set j (goneS s)), [])
theorem goesP_len (N : Nat) (ss : List PS) (j : Nat) (f : DFr) (x : DWire) : (goesP N ss j f x).1.length = ss.length := by
  unfold goesP
  split
  · rfl
  · split
    · simp
    · split
      · simp
      · simp [comesP_len]
theorem goesP_few (N : Nat) (ss : List PS) (j : Nat) (f : DFr) (x : DWire) : (goesP N ss j f x).2.length ≤ 1 := by
  unfold goesP
  split
  · simp
  · split
    · simp
    · split <;> simp
structure GoesR (b N : Nat) (gs : List SG) (sv lv : Value) (p : List PS × List DLate) (w : World) (r : Value) (w' : World) : Prop where
  core : CoreR b N gs sv lv p.1 w w'
  more : ∃ mv, r = .tuple #[mv, .nilIface] ∧ LateAt w' mv p.2 ∧ (p.2 = [] → mv = .slice none 0 0) ∧ ∀ g, mv.ownBlock = some g → w.heap.size ≤ g
theorem bLate (j : Int) (p : Option Addr) (n c : Nat) (t : Bool) (k : Int) (w : World) : (Instr.build 91 #[(0, .int .i64 j), (1, .slice p n c), (2, .bool t), (3, .int .i64 k)]).run Try.prog w = .ok (lateA (⟨j, [], t, k⟩, .slice p n c)) w := by kernel_rfl
theorem goes {m : Mem} {w : World} {b N : Nat} {gs : List SG} {sv lv : Value} {ss : List PS} {j : Nat} {f : DFr} {q : List DFr} {v fv : Value} {x : DWire} (h : Core w b N gs sv lv ss) (h1 : 1 ≤ N) (h64 : N ≤ 64) (hl : ss.length ≤ 1073741824)
    (hj : j < ss.length) (ho : ss[j].out = f :: q) (hva : Valid f) (hok : EntOk w (f, v)) (hm : Sub m w) (hoff : ∀ k ∈ foot b gs, Off m k) (hfv : Ints m fv x.flips) (hfn : x.flips.length ≤ 1073741824) :
    Does Try.prog 32 [ptr b, .int .i64 (j : Int), frA f v, wireA x fv] w (GoesR b N gs sv lv (goesP N ss j f x) w) := by
  obtain ⟨lost, twice, late, flips⟩ := x
  have hfn : flips.length ≤ 1073741824 := hfn
  obtain ⟨pf, cf, rfl, hcf⟩ := hfv.form
  obtain ⟨a, ha, hst⟩ := h.get hj
  have hlt := hst.lt
  have hbad : encErr f = 0 := (of_valid hva).1
  have hbl : (bitsP f).length ≤ 200 := by
    have := bits_len f
    have := head_len f
    have := hva.data
    split at * <;> omega
  have hbl2 : 0 < (bitsP f).length := by have := bits_len f; omega
  refine D32 ?_
  unfold S32
  refine r_box fun w1 e1 z1 b1 => ?_
  have b1 : Blk w1 w.heap.size (frC f v) 35 := b1
  refine r_box fun w2 e2 z2 b2 => ?_
  have b2 : Blk w2 w1.heap.size (wireC ⟨lost, twice, late, flips⟩ (.slice pf flips.length cf)) 38 := b2
  have e02 := e1.trans e2
  rw [ldN (b1.ext e2) agg35 (o := 0) rfl]
  refine GoN.does pl35 (bits ((Sub.self w).ext e02) (ent_sl hok) hok.inr) ?_
  rintro r w3 ⟨e3, _, hgood⟩
  obtain ⟨u, rfl, hou, hul⟩ := hgood hbad
  rw [Pure.run (x2_0 _ _), Pure.run (x2_1 _ _), Pure.run (e_nilnil _), CondP.ff]
  have e03 := e02.trans e3
  obtain ⟨g, cu, rfl, hcu, _⟩ := hou.at hbl2
  have hgl : w2.heap.size ≤ g := hul g rfl
  have c3 := h.ext e03
  have st3 := hst.ext e03
  obtain ⟨rv, hbs, hrr, hrl⟩ := st3.h
  show Run _ _ _ _
  rw [nil_r, Pure.run (p_field (o := 0) fld74_0), ld1 c3.blk one71 (o := 0 + 0) rfl]
  refine r_st c3.own ha rfl ?_
  rw [nil_r, Pure.run (p_field (o := 0) fld81_0), ld1 hbs one75 (o := 0 + 0) rfl]
  refine GoN.does pl34 (pop st3.o h64) ?_
  rintro r w4 ⟨m4, hq4, hval⟩
  rw [ho] at hval
  obtain ⟨v4, rfl, hok4⟩ := hval
  rw [Pure.run (x2_0 _ _), Pure.run (x2_1 _ _)]
  have hSnt : ∀ e, 35 ≠ e → 99 ≠ e → NoT w3 e [a.oq, a.og] := fun e x y => st3.o.noT x y
  have hb4 : Blk w4 a.st (stC a rv ss[j]) 81 := hbs.mod m4 fun hk => hSnt 81 (by decide) (by decide) _ hk _ hbs
  have hr4 := hrr.modT m4 (hSnt _ (by decide) (by decide))
  obtain ⟨r1, q1, _, _, _, og3, oq3, _⟩ := st3.o.h
  obtain ⟨r2, q2, _, _, _, ig3, iq3, _⟩ := st3.i.h
  have hn1 := hst.n1
  have hn2 := hst.n2
  have st4 : StAt w4 N a { ss[j] with out := ss[j].out.tail } := ⟨⟨rv, hb4, hr4, hrl⟩, hq4, st3.i.mod m4 (hSnt _ (by decide) (by decide)) (by
          have := iq3.ne og3 (by decide)
          simp; omega) (by
          have := ig3.ne oq3 (by decide)
          simp; omega), hn1, hn2⟩
  refine r_alloc zero35 fun w5 e5 z5 b5 => ?_
  refine r_store size35 (l := frC f v4) rfl rfl (ent_one hok4) b5 (show 0 + 3 ≤ 3 by decide) fun w6 c6 b6 => ?_
  have e46 : Ext w4 w6 := e5.chg c6 (Nat.le_refl _)
  rw [Pure.run (e_nilnil _), CondP.ff]
  have hsubO : ∀ k ∈ [a.oq, a.og], k ∈ a.blocks := by intro k hk; simp at hk; simp [SG.blocks]; omega
  have m06 : Mod a.blocks w w6 := ((Mod.ext e03).trans (m4.mono hsubO)).trans (Mod.ext e46)
  have mF : ∀ {w' : World}, Mod a.blocks w w' → Mod (foot b gs) w w' := fun m => m.mono fun k hk => mem_foot ha hk
  have cblk : ∀ {w' : World}, Mod a.blocks w w' → Blk w' b [sv, lv] 74 ∧ Own w' 78 1 sv gs.length (gs.map fun a => ptr a.st) := fun m =>
    ⟨h.blk.mod m fun hk => hst.noT (e := 74) (by decide) (by decide) (by decide) _ hk _ h.blk, h.own.modT m (hst.noT (by decide) (by decide) (by decide))⟩
  show Run _ _ _ _
  rw [nil_r, Pure.run (p_field (o := 0) fld74_0), ld1 (cblk m06).1 one71 (o := 0 + 0) rfl]
  refine r_st (cblk m06).2 ha rfl ?_
  have st6 := st4.ext e46
  refine r_bump (hb4.ext e46) fld64_0 rfl fun w7 c7 b7 => ?_
  have st7 : StAt w7 N a (goneS ss[j]) := st6.bump (s := { ss[j] with out := ss[j].out.tail }) (hb4.ext e46) (hr4.modT (Mod.ext (S := []) e46) (.nil _ _)) hrl c7 b7 rfl rfl rfl
  have m07 : Mod a.blocks w w7 := m06.trans (Mod.chg c7 (by simp [SG.blocks]))
  have hou7 : OBits w7 (.slice (some ⟨g, 0, none⟩) (bitsP f).length cu) (bitsP f) := by
    have x4 : OBits w4 _ _ := hou.modT m4 (hSnt _ (by decide) (by decide))
    have x6 := x4.ext e46
    exact x6.modT (Mod.one c7) (.one (hb4.ext e46) (by decide))
  have hwb : w1.heap.size ∉ a.blocks := fun hk => by have := hlt _ hk; have := e1.size; omega
  have bw7 : Blk w7 w1.heap.size (wireC ⟨lost, twice, late, flips⟩ (.slice pf flips.length cf)) 38 := by
    have m27 : Mod a.blocks w2 w7 := ((((Mod.ext e3).trans (m4.mono hsubO)).trans (Mod.ext e46))).trans (Mod.chg c7 (by simp [SG.blocks]))
    exact b2.mod m27 hwb
  rw [Pure.run (p_field (o := 0) fld38_3), ld1 bw7 one36 (o := 0 + 3) rfl, Pure.run (p_len sl36.slice)]
  simp only [JoinP.eq]
  refine LoopP.of1 (fun i w' => ∃ k : Nat, k ≤ flips.length ∧ i = .int .i64 k ∧ OBits w' (.slice (some ⟨g, 0, none⟩) (bitsP f).length cu) (flipsP (bitsP f) (flips.take k)) ∧ Mod a.blocks w w' ∧ StAt w' N a (goneS ss[j]) ∧ Blk w' w1.heap.size (wireC ⟨lost, twice, late, flips⟩ (.slice pf flips.length cf)) 38) (fun i _ => flips.length - (intOf i).toNat)
    ⟨0, Nat.zero_le _, rfl, hou7, m07, st7, bw7⟩ ?_
  rintro _ w8 ⟨k, hk, rfl, ho8, m08, st8, bw8⟩
  simp only [lss_r]
  refine CondP.dec (fun hlt' => ?_) (fun hlt' => ?_)
  · have hk' : k < flips.length := by omega
    obtain ⟨n, hn⟩ : ∃ n, flips[k]? = some n := ⟨flips[k], by simp⟩
    obtain ⟨bl, ol, cs, rfl, _, _, _, hat, rfl⟩ := hfv.get hn
    have hm8 := hm.mod m08 fun k hk => hoff k (mem_foot ha hk)
    try simp only [JoinP.eq]
    rw [Pure.run (p_idx (e := 3) (sz := 1) sl36.slice size3 (by omega) (by omega))]
    refine r_load1 one3 (v := .int .i64 n) (by simpa using hat w8 hm8 0 _ rfl) ?_
    have hfl : (flipsP (bitsP f) (flips.take k)).length = (bitsP f).length := flipsP_len _ _
    have hsn := flips_snoc (l := bitsP f) hn
    have fin : ∀ {w' : World}, OBits w' (.slice (some ⟨g, 0, none⟩) (bitsP f).length cu) (flipsP (bitsP f) (flips.take (k + 1))) → Mod a.blocks w w' → StAt w' N a (goneS ss[j]) → Blk w' w1.heap.size (wireC ⟨lost, twice, late, flips⟩ (.slice (some ⟨bl, ol, none⟩) flips.length cf)) 38 →
        (∃ k_1 : Nat, k_1 ≤ flips.length ∧ Value.int .i64 (IntKind.i64.wrap ((k : Int) + 1)) = .int .i64 (k_1 : Nat) ∧ OBits w' (.slice (some ⟨g, 0, none⟩) (bitsP f).length cu) (flipsP (bitsP f) (flips.take k_1)) ∧ Mod a.blocks w w' ∧ StAt w' N a (goneS ss[j]) ∧ Blk w' w1.heap.size (wireC ⟨lost, twice, late, flips⟩ (.slice (some ⟨bl, ol, none⟩) flips.length cf)) 38) ∧
        flips.length - (intOf (Value.int .i64 (IntKind.i64.wrap ((k : Int) + 1)))).toNat < flips.length - (intOf (.int .i64 (k : Int))).toNat := by
      intro w' f1 f2 f3 f4
      refine ⟨⟨k + 1, by omega, ?_, f1, f2, f3, f4⟩, ?_⟩
      · have := hcf
        rw [wrap64_id (by omega) (by omega)]; norm_cast
      · rw [wrap64_id (by omega) (by omega)]; simp [intOf]; omega
    simp only [geq_r]
    by_cases hn0 : 0 ≤ n
    · rw [decide_eq_true hn0]
      simp only [JoinP.eq, PickP.eq, GuardP.yes, GuardP.undef, GuardP.no (show (true == false) = false from rfl), GuardP.no (show (false == true) = false from rfl), CondP.tt, CondP.ff, add_r, sub_r, mul_r, lss_r, leq_r, gtr_r, geq_r, eql_r, neq_r, eqs_r, nes_r, not_r, nil_r, Bool.not_true, Bool.not_false, if_true, if_false, Bool.false_eq_true, decide_true, decide_false, Nat.zero_add, Bool.and_true, Bool.true_and, Pure.run (p_len sl52.slice)]
      by_cases hn1' : n < ((bitsP f).length : Int)
      · rw [decide_eq_true hn1']
        simp only [JoinP.eq, PickP.eq, GuardP.yes, GuardP.undef, GuardP.no (show (true == false) = false from rfl), GuardP.no (show (false == true) = false from rfl), CondP.tt, CondP.ff, add_r, sub_r, mul_r, lss_r, leq_r, gtr_r, geq_r, eql_r, neq_r, eqs_r, nes_r, not_r, nil_r, Bool.not_true, Bool.not_false, if_true, if_false, Bool.false_eq_true, decide_true, decide_false, Nat.zero_add, Bool.and_true, Bool.true_and]
        have hnl : n.toNat < (bitsP f).length := by omega
        obtain ⟨y, hy⟩ : ∃ y, (flipsP (bitsP f) (flips.take k))[n.toNat]? = some y := ⟨(flipsP (bitsP f) (flips.take k))[n.toNat]'(by omega), by simp [hfl, hnl]⟩
        obtain ⟨g', c', he, hcell⟩ := own_at ho8 (u := .bool y) (i := n.toNat) (by simp [bvals, hy])
        injection he with he
        injection he with he
        injection he with he
        subst he
        rw [Pure.run (p_idx (e := 4) (sz := 1) sl52.slice size4 hn0 hn1')]
        refine r_load1 one4 (v := .bool y) (by simpa using hcell) ?_
        rw [not_r, Pure.run (p_idx (e := 4) (sz := 1) sl52.slice size4 hn0 hn1'), show 0 + n.toNat * 1 = n.toNat by simp]
        have ho8' : Own w8 4 1 (.slice (some ⟨g, 0, none⟩) (bitsP f).length cu) (bitsP f).length (bvals (flipsP (bitsP f) (flips.take k))) := by
          have := ho8; unfold OBits at this; rw [hfl] at this; exact this
        obtain ⟨lg, hlg⟩ := ho8.blk (k := g) rfl
        refine r_storeOwn size4 (l := [.bool (!y)]) rfl rfl (all_one rfl) ho8' (by simp [bvals, hfl]; omega) fun w9 c9 ho9 => ?_
        have hgw : w.heap.size ≤ g := Nat.le_trans e02.size hgl
        have ho9 : OBits w9 (.slice (some ⟨g, 0, none⟩) (bitsP f).length cu) (flipsP (bitsP f) (flips.take (k + 1))) := by
          have hset : flipsP (bitsP f) (flips.take (k + 1)) = (flipsP (bitsP f) (flips.take k)).set n.toNat (!y) := by
            rw [hsn]; unfold flipP; rw [if_pos ⟨hn0, by rw [hfl]; exact hn1'⟩, hy]; rfl
          unfold OBits
          rw [flipsP_len, hset]
          have : bvals ((flipsP (bitsP f) (flips.take k)).set n.toNat (!y)) = splice (bvals (flipsP (bitsP f) (flips.take k))) n.toNat [.bool (!y)] := by
            rw [splice_set _ _ _ (by simp [bvals, hfl]; omega)]
            unfold bvals; rw [List.map_set]
          rw [this]; exact ho9
        try simp only [add_r]
        refine fin ho9 (m08.newS (T := [g]) (Mod.one c9) (by simp; exact .inr hgw)) ?_ ?_
        · refine st8.mod (Mod.one c9) (.one hlg (by decide)) (.one hlg (by decide)) fun k hk hk' => ?_
          have := hlt k hk
          simp at hk'; omega
        · exact bw8.chg c9 (bw8.ne hlg (by decide))
      · rw [decide_eq_false hn1']
        try simp only [JoinP.eq, PickP.eq, GuardP.yes, GuardP.undef, GuardP.no (show (true == false) = false from rfl), GuardP.no (show (false == true) = false from rfl), CondP.tt, CondP.ff, add_r, sub_r, mul_r, lss_r, leq_r, gtr_r, geq_r, eql_r, neq_r, eqs_r, nes_r, not_r, nil_r, Bool.not_true, Bool.not_false, if_true, if_false, Bool.false_eq_true, decide_true, decide_false, Nat.zero_add, Bool.and_true, Bool.true_and]
        refine fin ?_ m08 st8 bw8
        rw [hsn]; unfold flipP; rw [if_neg (fun hh => hn1' (by rw [← hfl]; exact hh.2))]; exact ho8
    · rw [decide_eq_false hn0]
      try simp only [JoinP.eq, PickP.eq, GuardP.yes, GuardP.undef, GuardP.no (show (true == false) = false from rfl), GuardP.no (show (false == true) = false from rfl), CondP.tt, CondP.ff, add_r, sub_r, mul_r, lss_r, leq_r, gtr_r, geq_r, eql_r, neq_r, eqs_r, nes_r, not_r, nil_r, Bool.not_true, Bool.not_false, if_true, if_false, Bool.false_eq_true, decide_true, decide_false, Nat.zero_add, Bool.and_true, Bool.true_and]
      refine fin ?_ m08 st8 bw8
      rw [hsn]; unfold flipP; rw [if_neg (fun hh => hn0 hh.1)]; exact ho8
  · have hk' : k = flips.length := by omega
    subst hk'
    rw [List.take_length] at ho8
    have hfl : (flipsP (bitsP f) flips).length = (bitsP f).length := flipsP_len _ _
    rw [Pure.run (p_field (o := 0) fld38_1), ld1 bw8 one4 (o := 0 + 1) rfl, Pure.run (p_field (o := 0) fld38_2), ld1 bw8 one3 (o := 0 + 2) rfl, Run.eq (bLate _ _ _ _ _ _ _)]
    refine r_alloc zero91 fun w9 e9 z9 b9 => ?_
    have hx8 : LateOk w8 (⟨(j : Int), flipsP (bitsP f) flips, twice, late⟩, .slice (some ⟨g, 0, none⟩) (bitsP f).length cu) := ⟨ho8, by show (flipsP (bitsP f) flips).length ≤ _; rw [hfl]; omega⟩
    refine r_store size91 (l := lateC (⟨(j : Int), flipsP (bitsP f) flips, twice, late⟩, .slice (some ⟨g, 0, none⟩) (bitsP f).length cu)) rfl rfl (late_one hx8) b9 (show 0 + 4 ≤ 4 by decide) fun w10 c10 b10 => ?_
    have b10 : Blk w10 w8.heap.size (lateC (⟨(j : Int), flipsP (bitsP f) flips, twice, late⟩, .slice (some ⟨g, 0, none⟩) (bitsP f).length cu)) 91 := b10
    have e810 : Ext w8 w10 := e9.chg c10 (Nat.le_refl _)
    have hx10 : LateOk w10 _ := hx8.modT (Mod.ext (S := []) e810) (.nil _ _)
    have m10 : Mod a.blocks w w10 := m08.trans (Mod.ext e810)
    obtain ⟨cc, mm⟩ := h.upd ha hj m10 (st8.ext e810)
    have bw10 := bw8.ext e810
    have hP : ss[j]? = some ss[j] := List.getElem?_eq_getElem hj
    try simp only [JoinP.eq]
    rw [Pure.run (p_field (o := 0) fld38_0), ld1 bw10 one4 (o := 0 + 0) rfl]
    refine CondP.of (fun hlost => ?_) (fun hlost => ?_)
    · refine ⟨⟨mm, ?_⟩, .slice none 0 0, rfl, ?_, fun _ => rfl, fun g hg => by simp [Value.ownBlock] at hg⟩
      · unfold goesP; rw [hP]; simp only; rw [if_pos hlost]; exact cc
      · unfold goesP; rw [hP]; simp only; rw [if_pos hlost]; exact LateAt.nil _
    · have hlost : lost = false := hlost
      have hlost' : ¬ (lost = true) := by rw [hlost]; simp
      try simp only [JoinP.eq]
      rw [Pure.run (p_field (o := 0) fld38_2), ld1 bw10 one3 (o := 0 + 2) rfl, gtr_r]
      refine CondP.dec (fun hlate => ?_) (fun hlate => ?_)
      · rw [ldN b10 agg91 (o := 0) rfl]
        have hG : goesP N ss j f ⟨lost, twice, late, flips⟩ = (ss.set j (goneS ss[j]), [⟨(j : Int), flipsP (bitsP f) flips, twice, late⟩]) := by
          unfold goesP; rw [hP]; simp only; rw [if_neg hlost', if_pos hlate]
        refine .of (run_build1 sl72 rfl w10) ?_
        have he := alloc_ext w10 (.cells (lateA (⟨(j : Int), flipsP (bitsP f) flips, twice, late⟩, .slice (some ⟨g, 0, none⟩) (bitsP f).length cu)).cells 91)
        have hblk : Blk (w10.alloc (.cells (lateA (⟨(j : Int), flipsP (bitsP f) flips, twice, late⟩, .slice (some ⟨g, 0, none⟩) (bitsP f).length cu)).cells 91)) w10.heap.size (lateC (⟨(j : Int), flipsP (bitsP f) flips, twice, late⟩, .slice (some ⟨g, 0, none⟩) (bitsP f).length cu)) 91 := by unfold Blk; rw [heap_alloc_new]; rfl
        rw [hG]
        refine ⟨⟨mm.trans (Mod.ext he), cc.ext he⟩, _, rfl, ⟨[(⟨(j : Int), flipsP (bitsP f) flips, twice, late⟩, .slice (some ⟨g, 0, none⟩) (bitsP f).length cu)], rfl, ⟨rfl, .inr ⟨_, 1, [], rfl, Nat.le_refl _, by unfold maxLen; omega, rfl, hblk⟩⟩, ?_⟩, fun hh => by simp at hh, fun g' hg' => ?_⟩
        · intro e he'
          simp at he'; subst he'
          exact hx10.modT (Mod.ext (S := []) he) (.nil _ _)
        · simp [Value.ownBlock] at hg'
          have := m10.size; omega
      · have hG : goesP N ss j f ⟨lost, twice, late, flips⟩ = (comesP N ⟨(j : Int), flipsP (bitsP f) flips, twice, late⟩ (ss.set j (goneS ss[j])), []) := by
          unfold goesP; rw [hP]; simp only; rw [if_neg hlost', if_neg hlate]
        rw [hG]
        rw [ldN b10 agg91 (o := 0) rfl]
        refine GoN.does pl33 (comes cc h1 h64 (by simpa using hl) hx10) ?_
        rintro _ w11 ⟨m11, c11⟩
        exact ⟨⟨mm.trans m11, c11⟩, .slice none 0 0, rfl, LateAt.nil _, fun _ => rfl, fun g hg => by simp [Value.ownBlock] at hg⟩
end Go.Proofs.Ytfdjkdiebabimaa.Sh
