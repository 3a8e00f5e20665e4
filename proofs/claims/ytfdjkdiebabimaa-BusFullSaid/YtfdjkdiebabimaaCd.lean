/- The bus in memory; a new one. Conditions: lengths up to 2^30. -/
import Derived.Test.YtfdjkdiebabimaaCc
set_option linter.unusedVariables false
set_option linter.unusedSimpArgs false
set_option maxRecDepth 10000
namespace Go.V
open Go.RowKit
variable {P : Program}
theorem NoT.append {w : World} {e : TypeId} {S T : List Nat} (h : NoT w e S) (k : NoT w e T) : NoT w e (S ++ T) := fun x hx => by
  rcases List.mem_append.1 hx with hx | hx
  · exact h x hx
  · exact k x hx
theorem NoT.mono {w : World} {e : TypeId} {S T : List Nat} (h : NoT w e S) (k : ∀ x ∈ T, x ∈ S) : NoT w e T := fun x hx => h x (k x hx)
theorem own_at {w : World} {e sz n i : Nat} {v u : Value} {xs : List Value} (h : Own w e sz v n xs) (hu : xs[i]? = some u) : ∃ g c, v = .slice (some ⟨g, 0, none⟩) n c ∧ w.cell? ⟨g, i, none⟩ = some u := by
  have hn : 0 < n := by
    have h1 := (List.getElem?_eq_some_iff.1 hu).1
    have h2 := h.1
    rcases Nat.eq_zero_or_pos n with h3 | h3
    · subst h3; omega
    · exact h3
  obtain ⟨g, c, rfl, _, hat⟩ := h.at hn
  exact ⟨g, c, rfl, by simpa using hat i u hu⟩
end Go.V
namespace Go.Proofs.Ytfdjkdiebabimaa.Sh
open Go Go.V Go.RowKit Go.Proofs.Ytfdjkdiebabimaa.Bp

/-- Where a station lies. -/
structure SG where
  st : Nat
  oq : Nat
  og : Nat
  iq : Nat
  ig : Nat
def SG.blocks (a : SG) : List Nat := [a.st, a.oq, a.og, a.iq, a.ig]
/-- What a station holds. -/
structure PS where
  out : List DFr
  inn : List DFr
  rules : List DRule
  sent : Int
  taken : Int
  refused : Int
  damaged : Int
  dropped : Int
def PS.new (l : List DRule) : PS := ⟨[], [], l, 0, 0, 0, 0, 0⟩
abbrev ptr (b : Nat) : Value := .pointer (some ⟨b, 0, none⟩)
def stC (a : SG) (rv : Value) (s : PS) : List Value := [ptr a.oq, ptr a.iq, rv, .int .i64 s.sent, .int .i64 s.taken, .int .i64 s.refused, .int .i64 s.damaged, .int .i64 s.dropped]
structure StAt (w : World) (N : Nat) (a : SG) (s : PS) : Prop where
  h : ∃ rv, Blk w a.st (stC a rv s) 81 ∧ ORules w rv s.rules ∧ s.rules.length ≤ 140737488355328
  o : QAt w a.oq a.og N s.out
  i : QAt w a.iq a.ig N s.inn
  n1 : a.oq ≠ a.iq
  n2 : a.og ≠ a.ig
theorem StAt.lt {w : World} {N : Nat} {a : SG} {s : PS} (h : StAt w N a s) : ∀ k ∈ a.blocks, k < w.heap.size := by
  obtain ⟨rv, hb, _⟩ := h.h
  have h1 := h.o.lt
  have h2 := h.i.lt
  have h3 := hb.lt
  intro k hk
  simp [SG.blocks] at hk
  omega
theorem StAt.noT {w : World} {N : Nat} {a : SG} {s : PS} (h : StAt w N a s) {e : TypeId} (h1 : 35 ≠ e) (h2 : 99 ≠ e) (h3 : 81 ≠ e) : NoT w e a.blocks := by
  obtain ⟨rv, hb, _⟩ := h.h
  refine .cons hb h3 ?_
  exact (h.o.noT h1 h2).append (h.i.noT h1 h2)
theorem ORules.modT {w w' : World} {v : Value} {l : List DRule} {S : List Nat} (h : ORules w v l) (m : Mod S w w') (hn : NoT w 69 S) : ORules w' v l := ⟨h.own.modT m hn, h.ok⟩
theorem StAt.mod {w w' : World} {N : Nat} {a : SG} {s : PS} {S : List Nat} (h : StAt w N a s) (m : Mod S w w') (h5 : NoT w 5 S) (h6 : NoT w 69 S) (hk : ∀ k ∈ a.blocks, k ∉ S) : StAt w' N a s := by
  obtain ⟨rv, hb, hr, hl⟩ := h.h
  exact ⟨⟨rv, hb.mod m (hk _ (by simp [SG.blocks])), hr.modT m h6, hl⟩, h.o.mod m h5 (hk _ (by simp [SG.blocks])) (hk _ (by simp [SG.blocks])), h.i.mod m h5 (hk _ (by simp [SG.blocks])) (hk _ (by simp [SG.blocks])), h.n1, h.n2⟩
theorem StAt.ext {w w' : World} {N : Nat} {a : SG} {s : PS} (h : StAt w N a s) (e : Ext w w') : StAt w' N a s := h.mod (S := []) (Mod.ext e) (.nil _ _) (.nil _ _) (by simp)
/-- What is late. -/
structure DLate where
  src : Int
  bits : List Bool
  twice : Bool
  wait : Int
abbrev LEnt := DLate × Value
def lateC (x : LEnt) : List Value := [.int .i64 x.1.src, x.2, .bool x.1.twice, .int .i64 x.1.wait]
structure LateOk (w : World) (x : LEnt) : Prop where
  own : OBits w x.2 x.1.bits
  len : x.1.bits.length ≤ 1048576
theorem LateOk.modT {w w' : World} {x : LEnt} {S : List Nat} (h : LateOk w x) (m : Mod S w w') (hn : NoT w 4 S) : LateOk w' x := ⟨h.own.modT m hn, h.len⟩
theorem late_one {w : World} {x : LEnt} (h : LateOk w x) : ∀ u ∈ lateC x, u.oneCell' = true := by
  intro u hu
  obtain ⟨p', c', he, _⟩ := h.own.len
  simp [lateC] at hu
  rcases hu with rfl | rfl | rfl | rfl
  · rfl
  · rw [he]; rfl
  · rfl
  · rfl
structure LateAt (w : World) (v : Value) (lt : List DLate) : Prop where
  h : ∃ es : List LEnt, es.map (·.1) = lt ∧ Own w 91 4 v lt.length (es.flatMap lateC) ∧ ∀ e ∈ es, LateOk w e
theorem LateAt.modT {w w' : World} {v : Value} {lt : List DLate} {S : List Nat} (h : LateAt w v lt) (m : Mod S w w') (h1 : NoT w 91 S) (h2 : NoT w 4 S) : LateAt w' v lt := by
  obtain ⟨es, a, b, c⟩ := h.h
  exact ⟨es, a, b.modT m h1, fun e he => (c e he).modT m h2⟩
theorem LateAt.nil (w : World) : LateAt w (.slice none 0 0) [] := ⟨[], rfl, Own.nil _ _ _, fun e he => by simp at he⟩
structure BusAt (w : World) (b N : Nat) (gs : List SG) (ss : List PS) (lt : List DLate) : Prop where
  blk : ∃ sv lv, Blk w b [sv, lv] 74 ∧ Own w 78 1 sv gs.length (gs.map fun a => ptr a.st) ∧ LateAt w lv lt
  len : gs.length = ss.length
  st : ∀ (i : Nat) (a : SG) (s : PS), gs[i]? = some a → ss[i]? = some s → StAt w N a s
  apart : ∀ (i j : Nat) (a a' : SG), i ≠ j → gs[i]? = some a → gs[j]? = some a' → ∀ k ∈ a.blocks, k ∉ a'.blocks
def foot (b : Nat) (gs : List SG) : List Nat := b :: gs.flatMap SG.blocks
theorem mem_foot {b : Nat} {gs : List SG} {i : Nat} {a : SG} (h : gs[i]? = some a) {k : Nat} (hk : k ∈ a.blocks) : k ∈ foot b gs := by
  unfold foot
  exact List.mem_cons_of_mem _ (List.mem_flatMap.2 ⟨a, List.mem_of_getElem? h, hk⟩)
theorem BusAt.noT {w : World} {b N : Nat} {gs : List SG} {ss : List PS} {lt : List DLate} (h : BusAt w b N gs ss lt) {e : TypeId} (h0 : 74 ≠ e) (h1 : 35 ≠ e) (h2 : 99 ≠ e) (h3 : 81 ≠ e) : NoT w e (foot b gs) := by
  obtain ⟨sv, lv, hb, _⟩ := h.blk
  refine .cons hb h0 fun k hk => ?_
  obtain ⟨a, ha, hk⟩ := List.mem_flatMap.1 hk
  obtain ⟨i, hi⟩ := List.mem_iff_getElem?.1 ha
  have hil : i < ss.length := by have := (List.getElem?_eq_some_iff.1 hi).1; have := h.len; omega
  exact (h.st i a ss[i] hi (by simp)).noT h1 h2 h3 k hk
theorem BusAt.lt {w : World} {b N : Nat} {gs : List SG} {ss : List PS} {lt : List DLate} (h : BusAt w b N gs ss lt) : ∀ k ∈ foot b gs, k < w.heap.size := by
  obtain ⟨sv, lv, hb, _⟩ := h.blk
  intro k hk
  rcases List.mem_cons.1 hk with rfl | hk
  · exact hb.lt
  · obtain ⟨a, ha, hk⟩ := List.mem_flatMap.1 hk
    obtain ⟨i, hi⟩ := List.mem_iff_getElem?.1 ha
    have hil : i < ss.length := by have := (List.getElem?_eq_some_iff.1 hi).1; have := h.len; omega
    exact (h.st i a ss[i] hi (by simp)).lt k hk
theorem BusAt.get {w : World} {b N : Nat} {gs : List SG} {ss : List PS} {lt : List DLate} (h : BusAt w b N gs ss lt) {i : Nat} (hi : i < ss.length) : ∃ a, gs[i]? = some a ∧ StAt w N a ss[i] := by
  have : i < gs.length := by have := h.len; omega
  exact ⟨gs[i], by simp, h.st i _ _ (by simp) (by simp)⟩
theorem BusAt.mod {w w' : World} {b N : Nat} {gs : List SG} {ss : List PS} {lt : List DLate} {S : List Nat} (h : BusAt w b N gs ss lt) (m : Mod S w w') (hf : ∀ k ∈ foot b gs, k ∉ S)
    (h1 : NoT w 5 S) (h2 : NoT w 69 S) (h3 : NoT w 78 S) (h4 : NoT w 91 S) (h5 : NoT w 4 S) : BusAt w' b N gs ss lt := by
  obtain ⟨sv, lv, hb, hs, hl⟩ := h.blk
  exact ⟨⟨sv, lv, hb.mod m (hf _ (by simp [foot])), hs.modT m h3, hl.modT m h4 h5⟩, h.len, fun i a s ha hs => (h.st i a s ha hs).mod m h1 h2 fun k hk => hf k (mem_foot ha hk), h.apart⟩
theorem BusAt.ext {w w' : World} {b N : Nat} {gs : List SG} {ss : List PS} {lt : List DLate} (h : BusAt w b N gs ss lt) (e : Ext w w') : BusAt w' b N gs ss lt :=
  h.mod (S := []) (Mod.ext e) (by simp) (.nil _ _) (.nil _ _) (.nil _ _) (.nil _ _) (.nil _ _)
theorem there {w : World} {b N : Nat} {gs : List SG} {ss : List PS} {lt : List DLate} {n : Int} (h : BusAt w b N gs ss lt) :
    Does Try.prog 27 [ptr b, .int .i64 n] w fun r w' => w' = w ∧ r = .bool (decide (0 ≤ n ∧ n < (ss.length : Int))) := by
  obtain ⟨sv, lv, hb, hs, hl⟩ := h.blk
  refine D27 ?_
  unfold S27
  rw [geq_r]
  by_cases h0 : 0 ≤ n
  · rw [decide_eq_true h0]
    simp only [JoinP.eq, PickP.eq, GuardP.yes, GuardP.undef, GuardP.no (show (true == false) = false from rfl), GuardP.no (show (false == true) = false from rfl), CondP.tt, CondP.ff, add_r, sub_r, mul_r, lss_r, leq_r, gtr_r, geq_r, eql_r, neq_r, eqs_r, nes_r, not_r, nil_r, Bool.not_true, Bool.not_false, if_true, if_false, Bool.false_eq_true, decide_true, decide_false, Nat.zero_add, Bool.and_true, Bool.true_and]
    rw [Pure.run (p_field (o := 0) fld74_0), ld1 hb one71 (o := 0 + 0) rfl]
    obtain ⟨p, c, rfl, _⟩ := hs.len
    rw [Pure.run (p_len sl71.slice), lss_r]
    refine ⟨rfl, ?_⟩
    congr 1
    rw [h.len]
    exact decide_eq_decide.2 ⟨fun hh => ⟨h0, hh⟩, fun hh => hh.2⟩
  · rw [decide_eq_false h0]
    simp only [JoinP.eq, PickP.eq, GuardP.yes, GuardP.undef, GuardP.no (show (true == false) = false from rfl), GuardP.no (show (false == true) = false from rfl), CondP.tt, CondP.ff, add_r, sub_r, mul_r, lss_r, leq_r, gtr_r, geq_r, eql_r, neq_r, eqs_r, nes_r, not_r, nil_r, Bool.not_true, Bool.not_false, if_true, if_false, Bool.false_eq_true, decide_true, decide_false, Nat.zero_add, Bool.and_true, Bool.true_and]
    exact ⟨trivial, by rw [decide_eq_false]; exact fun hh => h0 hh.1⟩
abbrev RRules (m : Mem) (cs : List Value) (l : List DRule) : Prop := ∃ v, cs = [v] ∧ Rules m v l ∧ l.length * 12 ≤ 140737488355328
abbrev RuLists (m : Mem) (v : Value) (ll : List (List DRule)) : Prop := Sl m 1 (RRules m) v ll
structure NewBR (room : Int) (ll : List (List DRule)) (w : World) (r : Value) (w' : World) : Prop where
  ext : Ext w w'
  no : ¬ ((1 ≤ ll.length ∧ ll.length ≤ 8) ∧ 1 ≤ room ∧ room ≤ 64) → r = .tuple #[.pointer none, errno 1]
  ok : (1 ≤ ll.length ∧ ll.length ≤ 8) ∧ 1 ≤ room ∧ room ≤ 64 → ∃ b gs, r = .tuple #[ptr b, .nilIface] ∧ BusAt w' b room.toNat gs (ll.map PS.new) [] ∧ ∀ k ∈ foot b gs, w.heap.size ≤ k
theorem bB0 : Pure Try.prog (Instr.build 74 #[]) (.agg #[.slice none 0 0, .slice none 0 0]) := fun w => by kernel_rfl
theorem bSt (a b : Nat) (p : Option Addr) (n c : Nat) : Pure Try.prog (Instr.build 81 #[(0, ptr a), (1, ptr b), (2, .slice p n c)]) (.agg #[ptr a, ptr b, .slice p n c, .int .i64 0, .int .i64 0, .int .i64 0, .int .i64 0, .int .i64 0]) := fun w => by kernel_rfl
theorem newB {m : Mem} {v : Value} {room : Int} {ll : List (List DRule)} {w : World} (hm : Sub m w) (hv : RuLists m v ll) :
    Does Try.prog 8 [.int .i64 room, v] w (NewBR room ll w) := by
  obtain ⟨p, c, rfl, hc⟩ := hv.form
  refine D8 ?_
  unfold S8
  simp only [Pure.run (p_len sl22.slice), lss_r]
  by_cases h1 : (ll.length : Int) < 1
  · rw [decide_eq_true h1]
    simp only [JoinP.eq, PickP.eq, GuardP.yes, GuardP.undef, GuardP.no (show (true == false) = false from rfl), GuardP.no (show (false == true) = false from rfl), CondP.tt, CondP.ff, add_r, sub_r, mul_r, lss_r, leq_r, gtr_r, geq_r, eql_r, neq_r, eqs_r, nes_r, not_r, nil_r, Bool.not_true, Bool.not_false, if_true, if_false, Bool.false_eq_true, decide_true, decide_false, Nat.zero_add, Bool.and_true, Bool.true_and]
    rw [Pure.run (i_err _)]
    exact ⟨Ext.refl _, fun _ => rfl, fun h => by omega⟩
  · rw [decide_eq_false h1]
    simp only [JoinP.eq, PickP.eq, GuardP.yes, GuardP.undef, GuardP.no (show (true == false) = false from rfl), GuardP.no (show (false == true) = false from rfl), CondP.tt, CondP.ff, add_r, sub_r, mul_r, lss_r, leq_r, gtr_r, geq_r, eql_r, neq_r, eqs_r, nes_r, not_r, nil_r, Bool.not_true, Bool.not_false, if_true, if_false, Bool.false_eq_true, decide_true, decide_false, Nat.zero_add, Bool.and_true, Bool.true_and, Pure.run (p_len sl22.slice)]
    by_cases h2 : (8 : Int) < (ll.length : Int)
    · rw [decide_eq_true h2]
      simp only [JoinP.eq, PickP.eq, GuardP.yes, GuardP.undef, GuardP.no (show (true == false) = false from rfl), GuardP.no (show (false == true) = false from rfl), CondP.tt, CondP.ff, add_r, sub_r, mul_r, lss_r, leq_r, gtr_r, geq_r, eql_r, neq_r, eqs_r, nes_r, not_r, nil_r, Bool.not_true, Bool.not_false, if_true, if_false, Bool.false_eq_true, decide_true, decide_false, Nat.zero_add, Bool.and_true, Bool.true_and]
      rw [Pure.run (i_err _)]
      exact ⟨Ext.refl _, fun _ => rfl, fun h => by omega⟩
    · rw [decide_eq_false h2]
      simp only [JoinP.eq, PickP.eq, GuardP.yes, GuardP.undef, GuardP.no (show (true == false) = false from rfl), GuardP.no (show (false == true) = false from rfl), CondP.tt, CondP.ff, add_r, sub_r, mul_r, lss_r, leq_r, gtr_r, geq_r, eql_r, neq_r, eqs_r, nes_r, not_r, nil_r, Bool.not_true, Bool.not_false, if_true, if_false, Bool.false_eq_true, decide_true, decide_false, Nat.zero_add, Bool.and_true, Bool.true_and, Pure.run (p_len sl22.slice)]
      rw [Pure.run bB0]
      refine r_box fun w1 e1 z1 b1 => ?_
      try simp only [Pure.run (p_len sl22.slice), JoinP.eq]
      have b1 : Blk w1 w.heap.size [.slice none 0 0, .slice none 0 0] 74 := b1
      refine LoopP.of3 (fun _ _ i w' => ∃ (k : Nat) (gs : List SG) (sv : Value), k ≤ ll.length ∧ i = .int .i64 k ∧ gs.length = k ∧ (0 < k → 1 ≤ room ∧ room ≤ 64) ∧ Ext w w' ∧ Blk w' w.heap.size [sv, .slice none 0 0] 74 ∧ Own w' 78 1 sv k (gs.map fun a => ptr a.st) ∧ (∀ g, sv.ownBlock = some g → w1.heap.size ≤ g) ∧
          (∀ (i : Nat) (a : SG) (l : List DRule), gs[i]? = some a → ll[i]? = some l → StAt w' room.toNat a (PS.new l)) ∧ (∀ a ∈ gs, ∀ k ∈ a.blocks, w1.heap.size ≤ k) ∧ (∀ (i j : Nat) (a a' : SG), i ≠ j → gs[i]? = some a → gs[j]? = some a' → ∀ k ∈ a.blocks, k ∉ a'.blocks)) (fun _ _ i _ => ll.length - (intOf i).toNat)
        ⟨0, [], .slice none 0 0, Nat.zero_le _, rfl, rfl, by omega, e1, b1, Own.nil _ _ _, fun g hg => by simp [Value.ownBlock] at hg, by simp, by simp, by simp⟩ ?_
      rintro _ _ _ w2 ⟨k, gs, sv, hk, rfl, hal, hroom, e2, b2, ho, hlow, hst, hge, hap⟩
      have hw12 : w1.heap.size ≤ w2.heap.size := by have := b2.lt; have := e2.size; have := z1; omega
      simp only [lss_r]
      refine CondP.dec (fun h => ?_) (fun h => ?_)
      · have hk' : k < ll.length := by omega
        obtain ⟨x, hx⟩ : ∃ x, ll[k]? = some x := ⟨ll[k], by simp⟩
        obtain ⟨bl, ol, cs, rfl, _, _, _, hat, rv0, rfl, hrv, hxl⟩ := hv.get hx
        have hrc : rv0.oneCell' = true := by
          obtain ⟨p', c', rfl, _⟩ := hrv.form; rfl
        try simp only [JoinP.eq]
        rw [Pure.run (p_idx (e := 57) (sz := 1) sl22.slice size57 (by omega) (by omega))]
        refine r_load1 one57 (v := rv0) (by simpa using hat w2 (hm.ext e2) 0 _ rfl) ?_
        refine GoN.does pl24 newQ ?_
        rintro r w3 ⟨e3, hno, hok⟩
        by_cases hr : 1 ≤ room ∧ room ≤ 64
        · obtain ⟨oq, og, rfl, hq1, ho1, ho2⟩ := hok hr
          rw [Pure.run (x2_0 _ _), Pure.run (x2_1 _ _), Pure.run (e_nilnil _), CondP.ff]
          refine GoN.does pl24 newQ ?_
          rintro r w4 ⟨e4, hno4, hok4⟩
          obtain ⟨iq, ig, rfl, hq2, hi1, hi2⟩ := hok4 hr
          rw [Pure.run (x2_0 _ _), Pure.run (x2_1 _ _), Pure.run (e_nilnil _), CondP.ff]
          intro w5 e5
          have e25 := (e3.trans e4).trans e5
          have e05 := e2.trans e25
          have b5 := b2.ext e25
          have hq1l := hq1.lt
          have hq2l := hq2.lt
          refine ⟨fun w' => Blk w' w.heap.size [sv, .slice none 0 0] 74, b5, ?_⟩
          refine Pure.g p_nil (Pure.g (p_field (o := 0) fld74_0) (ldG one71 (v := sv) (fun w' hk => hk.get rfl) ?_))
          refine GoN.does pl25 (cloneR (hm.ext e05) hrv hxl) ?_
          rintro rv w6 ⟨e6, hor⟩
          refine ⟨b5.ext e6, ?_⟩
          obtain ⟨rp, rc, rfl, _⟩ := hor.own.len
          refine Pure.g (bSt _ _ _ _ _) ?_
          refine r_box fun w7 e7 z7 b7 => ?_
          have b7 : Blk w7 w6.heap.size (stC ⟨w6.heap.size, oq, og, iq, ig⟩ (.slice rp x.length rc) (PS.new x)) 81 := b7
          have e27 := (e25.trans e6).trans e7
          refine ⟨b2.ext e27, ?_⟩
          have ho7 := ho.ext e27
          refine r_append1E sl71 ho7 rfl (all_one rfl) (by unfold maxLen; omega) (by omega) (fun w' e' => (b2.ext e27).ext e') fun sv8 w8 ho8 g8 => ?_
          have hlow7 : ∀ g, sv.ownBlock = some g → w1.heap.size ≤ g := hlow
          have hw17 : w1.heap.size ≤ w7.heap.size := Nat.le_trans hw12 e27.size
          have b8 : Blk w8 w.heap.size [sv, .slice none 0 0] 74 := (g8.block _ (b2.ext e27).lt (fun he => by have := hlow _ he.symm; omega)).trans (b2.ext e27)
          refine ⟨b8, ?_⟩
          have hsv8 : sv8.cells.toList = [sv8] ∧ sv8.oneCell' = true := by
            obtain ⟨p', c', rfl, _⟩ := ho8.len; exact ⟨rfl, rfl⟩
          rw [nil_r, Pure.run (p_field (o := 0) fld74_0)]
          refine r_store size71 (l := [sv8]) hsv8.1 rfl (by intro y hy; simp at hy; subst hy; exact hsv8.2) b8 (show 0 + 0 + 1 ≤ 2 by decide) fun w9 c9 b9 => ?_
          have b9 : Blk w9 w.heap.size [sv8, .slice none 0 0] 74 := b9
          have hlow8 := g8.low (B := w1.heap.size) hw17 hlow
          have m79 : Mod (match sv.ownBlock with | some g => [g, w.heap.size] | none => [w.heap.size]) w7 w9 := by
            refine (Mod.grow g8 ?_).trans (Mod.chg c9 ?_)
            · intro k hk; rw [hk]; simp
            · split <;> simp
          have hnt : ∀ e, 78 ≠ e → 74 ≠ e → NoT w7 e (match sv.ownBlock with | some g => [g, w.heap.size] | none => [w.heap.size]) := by
            intro e h1 h2
            cases hs : sv.ownBlock with
            | none => exact .one (b2.ext e27) h2
            | some g =>
              obtain ⟨l, hl⟩ := ho7.blk hs
              exact .cons hl h1 (.one (b2.ext e27) h2)
          have hS : ∀ k ∈ (match sv.ownBlock with | some g => [g, w.heap.size] | none => [w.heap.size]), k = w.heap.size ∨ sv.ownBlock = some k := by
            intro k hk
            cases hs : sv.ownBlock with
            | none => rw [hs] at hk; simp at hk; exact .inl hk
            | some g => rw [hs] at hk; simp at hk; rcases hk with rfl | rfl; exact .inr rfl; exact .inl rfl
          have hBlkNe : ∀ {k : Nat} {l : List Value} {t : TypeId}, Blk w7 k l t → 78 ≠ t → 74 ≠ t → k ∉ (match sv.ownBlock with | some g => [g, w.heap.size] | none => [w.heap.size]) :=
            fun hb h1 h2 hk => hnt _ h1 h2 _ hk _ hb
          have stKeep : ∀ {a : SG} {s : PS}, StAt w7 room.toNat a s → StAt w9 room.toNat a s := by
            intro a s hs
            refine hs.mod m79 (hnt _ (by decide) (by decide)) (hnt _ (by decide) (by decide)) fun k hk => ?_
            obtain ⟨rv, hb, _⟩ := hs.h
            obtain ⟨_, _, _, _, _, q1, q2, _⟩ := hs.o.h
            obtain ⟨_, _, _, _, _, q3, q4, _⟩ := hs.i.h
            simp [SG.blocks] at hk
            rcases hk with rfl | rfl | rfl | rfl | rfl
            · exact hBlkNe hb (by decide) (by decide)
            · exact hBlkNe q2 (by decide) (by decide)
            · exact hBlkNe q1 (by decide) (by decide)
            · exact hBlkNe q4 (by decide) (by decide)
            · exact hBlkNe q3 (by decide) (by decide)
          let a' : SG := ⟨w6.heap.size, oq, og, iq, ig⟩
          have e37 := ((e4.trans e5).trans e6).trans e7
          have e47 := (e5.trans e6).trans e7
          have hnew : StAt w7 room.toNat a' (PS.new x) := ⟨⟨_, b7, hor.modT (Mod.ext (S := []) e7) (.nil _ _), by show x.length ≤ _; omega⟩, hq1.ext e37, hq2.ext e47, by show oq ≠ iq; omega, by show og ≠ ig; omega⟩
          have hs25 := e25.size
          have hs6 := e6.size
          have hnb : ∀ k ∈ a'.blocks, w2.heap.size ≤ k := by
            intro k hk
            have := e3.size
            simp [SG.blocks, a'] at hk
            rcases hk with rfl | rfl | rfl | rfl | rfl <;> omega
          have x09 : Ext w w9 := by
            have x1 : Ext w w7 := e2.trans e27
            exact ⟨c9.os.trans (g8.os.trans x1.os), c9.tape.trans (g8.tape.trans x1.tape), c9.output.trans (g8.output.trans x1.output), by have := x1.size; have := g8.size; have := c9.size; omega,
              fun j hj => (c9.block j (by omega)).trans ((g8.block j (Nat.lt_of_lt_of_le hj x1.size) (fun he => by have := hlow _ he.symm; omega)).trans (x1.block j hj))⟩
          simp only [add_r]
          refine ⟨⟨k + 1, gs ++ [a'], sv8, by omega, succ64 (by omega), by simp [hal], fun _ => hr, x09, b9, ?_, hlow8, ?_, ?_, ?_⟩, ?_⟩
          · rw [List.map_append]
            exact ho8.chg c9 (fun he => by have := hlow8 _ he; omega)
          · intro i a l hi hl
            rcases Nat.lt_or_ge i k with h | h
            · rw [List.getElem?_append_left (by omega)] at hi
              exact stKeep ((hst i a l hi hl).ext e27)
            · have hi2 := (List.getElem?_eq_some_iff.1 hi).1
              simp at hi2
              obtain rfl : i = k := by omega
              rw [List.getElem?_append_right (by omega), hal, Nat.sub_self] at hi
              simp at hi; subst hi
              rw [hx] at hl
              injection hl with hl; subst hl
              exact stKeep hnew
          · intro a ha k hk
            rcases List.mem_append.1 ha with ha | ha
            · exact hge a ha k hk
            · simp at ha; subst ha
              have := hnb k hk; omega
          · have hold : ∀ (i : Nat) a, gs[i]? = some a → ∀ k ∈ a.blocks, k < w2.heap.size := by
              intro i a hi
              have hil := (List.getElem?_eq_some_iff.1 hi).1
              exact (hst i a ll[i] hi (by simp)).lt
            intro i j a b hij hi hj q hq hq'
            rcases Nat.lt_or_ge i k with h | h <;> rcases Nat.lt_or_ge j k with h' | h'
            · rw [List.getElem?_append_left (by omega)] at hi hj
              exact hap i j a b hij hi hj q hq hq'
            · rw [List.getElem?_append_left (by omega)] at hi
              rw [List.getElem?_append_right (by omega)] at hj
              have hj2 := (List.getElem?_eq_some_iff.1 hj).1
              simp at hj2
              rw [hal, show j - k = 0 by omega] at hj
              simp at hj; subst hj
              have h1 := hold i a hi q hq
              have h2 := hnb q hq'
              omega
            · rw [List.getElem?_append_left (by omega)] at hj
              rw [List.getElem?_append_right (by omega)] at hi
              have hi2 := (List.getElem?_eq_some_iff.1 hi).1
              simp at hi2
              rw [hal, show i - k = 0 by omega] at hi
              simp at hi; subst hi
              have h1 := hold j b hj q hq'
              have h2 := hnb q hq
              omega
            · have hi2 := (List.getElem?_eq_some_iff.1 hi).1
              have hj2 := (List.getElem?_eq_some_iff.1 hj).1
              simp at hi2 hj2
              omega
          · rw [succ64 (by omega)]; simp [intOf]; omega
        · have := hno hr
          subst this
          rw [Pure.run (x2_0 _ _), Pure.run (x2_1 _ _)]
          unfold errno
          rw [Pure.run (e_nil _ _ _ _), CondP.tt, Pure.run (i_err _)]
          exact ⟨e2.trans e3, fun _ => rfl, fun h => absurd h.2 hr⟩
      · have hk' : k = ll.length := by omega
        subst hk'
        have hr := hroom (by omega)
        refine ⟨e2, fun h => absurd ⟨⟨by omega, by omega⟩, hr⟩ h, fun _ => ⟨w.heap.size, gs, rfl, ⟨⟨sv, _, b2, by rw [hal]; exact ho, LateAt.nil _⟩, by simp [hal], fun i a s ha hs => ?_, hap⟩, ?_⟩⟩
        · rw [List.getElem?_map] at hs
          obtain ⟨l, hl, rfl⟩ := Option.map_eq_some_iff.1 hs
          exact hst i a l ha hl
        · intro k hk
          rcases List.mem_cons.1 hk with rfl | hk
          · exact Nat.le_refl _
          · obtain ⟨a, ha, hk⟩ := List.mem_flatMap.1 hk
            have := hge a ha k hk; omega
end Go.Proofs.Ytfdjkdiebabimaa.Sh
