/- What the stations hear. Conditions: lengths up to 2^30. -/
import Derived.Test.YtfdjkdiebabimaaCe
set_option linter.unusedVariables false
set_option linter.unusedSimpArgs false
set_option maxRecDepth 10000
namespace Go.V
open Go.RowKit
variable {P : Program}
theorem run_append0 {t e sz bytes ty n : Nat} (ht : SlT P t e sz bytes) {v : Value} {w : World} {xs : List Value} (hown : Own w e sz v n xs) :
    (Builtin.append_ #[t, t] ty #[v, .slice none 0 0]).run P w = .ok v w := by
  obtain ⟨i, z, hi, hz, rfl, rfl, hzs⟩ := ht.info
  rcases hown.2 with ⟨rfl, rfl⟩ | ⟨g, cap, ys, rfl, hnc, hcm, hcs, hg⟩
  · simp [Builtin.append_, run_underlying ht.slice, sizeOf, typeInfo, hi, Builtin.lenOf, Builtin.firstCells, loadCells, loadCellsFrom]
  · simp [Builtin.append_, run_underlying ht.slice, sizeOf, typeInfo, hi, Builtin.lenOf, Builtin.firstCells, loadCells, loadCellsFrom, hnc, storeCells]
end Go.V
namespace Go.Proofs.Ytfdjkdiebabimaa.Sh
open Go Go.V Go.RowKit Go.Proofs.Ytfdjkdiebabimaa.Bp

/-- The bus's stations, whatever is late. -/
structure Core (w : World) (b N : Nat) (gs : List SG) (sv lv : Value) (ss : List PS) : Prop where
  blk : Blk w b [sv, lv] 74
  own : Own w 78 1 sv gs.length (gs.map fun a => ptr a.st)
  len : gs.length = ss.length
  st : ∀ (i : Nat) (a : SG) (s : PS), gs[i]? = some a → ss[i]? = some s → StAt w N a s
  apart : ∀ (i j : Nat) (a a' : SG), i ≠ j → gs[i]? = some a → gs[j]? = some a' → ∀ k ∈ a.blocks, k ∉ a'.blocks
theorem BusAt.core {w : World} {b N : Nat} {gs : List SG} {ss : List PS} {lt : List DLate} (h : BusAt w b N gs ss lt) : ∃ sv lv, Core w b N gs sv lv ss ∧ LateAt w lv lt := by
  obtain ⟨sv, lv, hb, hs, hl⟩ := h.blk
  exact ⟨sv, lv, ⟨hb, hs, h.len, h.st, h.apart⟩, hl⟩
theorem Core.bus {w : World} {b N : Nat} {gs : List SG} {sv lv : Value} {ss : List PS} {lt : List DLate} (h : Core w b N gs sv lv ss) (hl : LateAt w lv lt) : BusAt w b N gs ss lt := ⟨⟨sv, lv, h.blk, h.own, hl⟩, h.len, h.st, h.apart⟩
theorem Core.get {w : World} {b N : Nat} {gs : List SG} {sv lv : Value} {ss : List PS} (h : Core w b N gs sv lv ss) {i : Nat} (hi : i < ss.length) : ∃ a, gs[i]? = some a ∧ StAt w N a ss[i] := by
  have : i < gs.length := by have := h.len; omega
  exact ⟨gs[i], by simp, h.st i _ _ (by simp) (by simp)⟩
theorem Core.noT {w : World} {b N : Nat} {gs : List SG} {sv lv : Value} {ss : List PS} (h : Core w b N gs sv lv ss) {e : TypeId} (h0 : 74 ≠ e) (h1 : 35 ≠ e) (h2 : 99 ≠ e) (h3 : 81 ≠ e) : NoT w e (foot b gs) := by
  refine .cons h.blk h0 fun k hk => ?_
  obtain ⟨a, ha, hk⟩ := List.mem_flatMap.1 hk
  obtain ⟨i, hi⟩ := List.mem_iff_getElem?.1 ha
  have hil : i < ss.length := by have := (List.getElem?_eq_some_iff.1 hi).1; have := h.len; omega
  exact (h.st i a ss[i] hi (by simp)).noT h1 h2 h3 k hk
theorem Core.lt {w : World} {b N : Nat} {gs : List SG} {sv lv : Value} {ss : List PS} (h : Core w b N gs sv lv ss) : ∀ k ∈ foot b gs, k < w.heap.size := by
  intro k hk
  rcases List.mem_cons.1 hk with rfl | hk
  · exact h.blk.lt
  · obtain ⟨a, ha, hk⟩ := List.mem_flatMap.1 hk
    obtain ⟨i, hi⟩ := List.mem_iff_getElem?.1 ha
    have hil : i < ss.length := by have := (List.getElem?_eq_some_iff.1 hi).1; have := h.len; omega
    exact (h.st i a ss[i] hi (by simp)).lt k hk
theorem Core.mod {w w' : World} {b N : Nat} {gs : List SG} {sv lv : Value} {ss : List PS} {S : List Nat} (h : Core w b N gs sv lv ss) (m : Mod S w w') (hf : ∀ k ∈ foot b gs, k ∉ S)
    (h1 : NoT w 5 S) (h2 : NoT w 69 S) (h3 : NoT w 78 S) : Core w' b N gs sv lv ss :=
  ⟨h.blk.mod m (hf _ (by simp [foot])), h.own.modT m h3, h.len, fun i a s ha hs => (h.st i a s ha hs).mod m h1 h2 fun k hk => hf k (mem_foot ha hk), h.apart⟩
theorem Core.ext {w w' : World} {b N : Nat} {gs : List SG} {sv lv : Value} {ss : List PS} (h : Core w b N gs sv lv ss) (e : Ext w w') : Core w' b N gs sv lv ss :=
  h.mod (S := []) (Mod.ext e) (by simp) (.nil _ _) (.nil _ _) (.nil _ _)
theorem Core.upd {w w' : World} {b N i : Nat} {gs : List SG} {sv lv : Value} {ss : List PS} {a : SG} {s' : PS} (h : Core w b N gs sv lv ss) (ha : gs[i]? = some a) (hi : i < ss.length) (m : Mod a.blocks w w') (hs : StAt w' N a s') :
    Core w' b N gs sv lv (ss.set i s') ∧ Mod (foot b gs) w w' := by
  have h0 := h.st i a ss[i] ha (by simp)
  have hnt : ∀ e, 35 ≠ e → 99 ≠ e → 81 ≠ e → NoT w e a.blocks := fun e h1 h2 h3 => h0.noT h1 h2 h3
  refine ⟨⟨h.blk.mod m (fun hk => hnt 74 (by decide) (by decide) (by decide) _ hk _ h.blk), h.own.modT m (hnt _ (by decide) (by decide) (by decide)), by simp [h.len], fun j a' s ha' hs' => ?_, h.apart⟩, m.mono fun k hk => mem_foot ha hk⟩
  by_cases hij : i = j
  · subst hij
    rw [ha] at ha'
    injection ha' with ha'
    subst ha'
    rw [List.getElem?_set_self hi] at hs'
    injection hs' with hs'
    subst hs'
    exact hs
  · rw [List.getElem?_set_ne hij] at hs'
    exact (h.st j a' s ha' hs').mod m (hnt _ (by decide) (by decide) (by decide)) (hnt _ (by decide) (by decide) (by decide)) fun k hk hk' => h.apart i j a a' hij ha ha' k hk' hk
/-! Hearing. -/
def hearP (N : Nat) (r : Option DFr) (s : PS) : PS :=
  match r with
  | none => { s with damaged := inc s.damaged }
  | some f =>
    if takesP s.rules f then
      if s.inn.length = N then { s with dropped := inc s.dropped } else { s with taken := inc s.taken, inn := s.inn ++ [f] }
    else { s with refused := inc s.refused }
/-- What is handed to hear: a frame, or an error. -/
abbrev HearA (w : World) (r : Option DFr) (fr err : Value) : Prop :=
  match r with
  | none => fr = frA DFr.zero (.slice none 0 0) ∧ ∃ t a, err = .iface t a
  | some f => ∃ v, fr = frA f v ∧ err = .nilIface ∧ EntOk w (f, v)
theorem HearA.mod {w w' : World} {r : Option DFr} {fr err : Value} {S : List Nat} (h : HearA w r fr err) (m : Mod S w w') (hn : NoT w 5 S) : HearA w' r fr err := by
  cases r with
  | none => exact h
  | some f =>
    obtain ⟨v, h1, h2, h3⟩ := h
    exact ⟨v, h1, h2, h3.mod m hn⟩
theorem r_bump {w : World} {a : SG} {rv : Value} {s : PS} (hb : Blk w a.st (stC a rv s) 81) {j : Nat} {c : Int} (hf : fieldB Try.prog 64 j j = true) (hc : (stC a rv s)[0 + 3 + j]? = some (.int .i64 c)) {x y : Operand} {K : World → Prop}
    (k : ∀ w', Chg a.st w w' → Blk w' a.st (splice (stC a rv s) (0 + 3 + j) [.int .i64 (inc c)]) 81 → K w') :
    Run Try.prog (nilSem (ptr a.st)) w fun t19 w3 => Run Try.prog (Instr.fieldAt 81 t19 3) w3 fun t20 w4 => Run Try.prog (Instr.fieldAt 64 t20 j) w4 fun t21 w5 => Run Try.prog (Instr.loadAt 3 t21) w5 fun t22 w6 =>
      Run Try.prog (binSem .add 3 x y t22 (.int .i64 1)) w6 fun t23 w7 => Run Try.prog (nilSem (ptr a.st)) w7 fun t24 w8 => Run Try.prog (Instr.fieldAt 81 t24 3) w8 fun t25 w9 => Run Try.prog (Instr.fieldAt 64 t25 j) w9 fun t26 w10 =>
      RunU Try.prog (Instr.storeAt 3 t26 t23) w10 K := by
  rw [nil_r, Pure.run (p_field (o := 0) fld81_3), Pure.run (p_field (o := 0 + 3) hf), ld1 hb one3 hc, add_r, nil_r, Pure.run (p_field (o := 0) fld81_3), Pure.run (p_field (o := 0 + 3) hf)]
  have hj : 0 + 3 + j < 8 := by have := (List.getElem?_eq_some_iff.1 hc).1; simpa [stC] using this
  exact r_store size3 (l := [.int .i64 (inc c)]) rfl rfl (all_one rfl) hb (by simp [stC]; omega) fun w' c' b' => k w' c' b'
theorem StAt.bump {w w' : World} {N : Nat} {a : SG} {s s' : PS} {rv : Value} (h : StAt w N a s) (hb : Blk w a.st (stC a rv s) 81) (hr : ORules w rv s.rules) (hl : s.rules.length ≤ 140737488355328) (c : Chg a.st w w') (hb' : Blk w' a.st (stC a rv s') 81) (h1 : s'.rules = s.rules) (h2 : s'.out = s.out) (h3 : s'.inn = s.inn) : StAt w' N a s' := by
  have m := Mod.one c
  have n5 : NoT w 5 [a.st] := .one hb (by decide)
  have n6 : NoT w 69 [a.st] := .one hb (by decide)
  obtain ⟨_, _, _, _, _, q1, q2, _⟩ := h.o.h
  obtain ⟨_, _, _, _, _, q3, q4, _⟩ := h.i.h
  have x1 := q1.ne hb (by decide)
  have x2 := q2.ne hb (by decide)
  have x3 := q3.ne hb (by decide)
  have x4 := q4.ne hb (by decide)
  exact ⟨⟨rv, hb', by rw [h1]; exact hr.modT m n6, by rw [h1]; exact hl⟩, by rw [h2]; exact h.o.mod m n5 (by simp; omega) (by simp; omega), by rw [h3]; exact h.i.mod m n5 (by simp; omega) (by simp; omega), h.n1, h.n2⟩
theorem ent_sl {w : World} {x : Ent} (h : EntOk w x) : Bytes (memW w) x.2 x.1.data := h.own.bytes
theorem hear {w : World} {N : Nat} {a : SG} {s : PS} {r : Option DFr} {fr err : Value} (h : StAt w N a s) (h1 : 1 ≤ N) (h64 : N ≤ 64) (hA : HearA w r fr err) :
    Does Try.prog 79 [ptr a.st, fr, err] w fun _ w' => Mod a.blocks w w' ∧ StAt w' N a (hearP N r s) := by
  have hst : a.st ∈ a.blocks := by simp [SG.blocks]
  refine D79 ?_
  unfold S79
  refine r_box fun w1 e1 z1 b1 => ?_
  simp only [JoinP.eq]
  obtain ⟨rv, hb, hr, hl⟩ := (h.ext e1).h
  cases r with
  | none =>
    obtain ⟨rfl, t, v, rfl⟩ := hA
    rw [Pure.run (e_nil _ _ _ _), CondP.tt]
    refine r_bump hb fld64_3 rfl fun w2 c2 b2 => ?_
    exact ⟨(Mod.ext e1).trans (Mod.chg c2 hst), (h.ext e1).bump hb hr hl c2 b2 rfl rfl rfl⟩
  | some f =>
    obtain ⟨v, rfl, rfl, hok⟩ := hA
    have b1 : Blk w1 w.heap.size (frC f v) 35 := b1
    rw [Pure.run (e_nilnil _), CondP.ff]
    intro w2 e2
    have e02 := e1.trans e2
    have hb2 := hb.ext e2
    have hr2 := hr.modT (Mod.ext (S := []) e2) (.nil _ _)
    have b2 := b1.ext e2
    rw [Pure.runQ p_nil, Pure.runQ (p_field (o := 0) fld81_2), ld1Q hb2 one57 (o := 0 + 2) rfl, ldNQ b2 agg35 (o := 0) rfl]
    refine GoN.does pl19 (takes (u := v) (f := f) (Sub.self w2) hr2.rules hl hok.inr.id) ?_
    rintro _ w3 ⟨e3, rfl⟩
    refine ⟨e3, ?_⟩
    rw [not_q]
    have e03 := e02.trans e3
    have st3 := h.ext e03
    have hb3 := hb2.ext e3
    have hr3 := hr2.modT (Mod.ext (S := []) e3) (.nil _ _)
    cases ht : takesP s.rules f with
    | false =>
      rw [Bool.not_false, CondP.tt]
      refine r_bump hb3 fld64_2 rfl fun w4 c4 b4 => ?_
      have hP : hearP N (some f) s = { s with refused := inc s.refused } := by unfold hearP; simp only [ht]; rfl
      rw [hP]
      exact ⟨(Mod.ext e03).trans (Mod.chg c4 hst), st3.bump hb3 hr3 hl c4 b4 rfl rfl rfl⟩
    | true =>
      rw [Bool.not_true, CondP.ff]
      intro w4 e4
      have e04 := e03.trans e4
      have hb4 := hb3.ext e4
      have b4 := (b2.ext e3).ext e4
      have st4 := h.ext e04
      refine ⟨fun w' => Blk w' a.st (stC a rv s) 81 ∧ Blk w' w.heap.size (frC f v) 35, ⟨hb4, b4⟩, ?_⟩
      refine Pure.g p_nil (Pure.g (p_field (o := 0) fld81_1) (ldG one75 (v := ptr a.iq) (fun w' hk => hk.1.get rfl) ?_))
      refine ⟨frA f v, fun w' hk => run_loadN agg35 (l := frC f v) rfl hk.2.at, ?_⟩
      refine GoN.does pl29 (ownF ((Sub.self w).ext e04) (ent_sl hok) hok.inr) ?_
      rintro _ w5 ⟨e5, v', rfl, hok5, hlow⟩
      have e05 := e04.trans e5
      have st5 := st4.ext e5
      have hb5 := hb4.ext e5
      have b5 := b4.ext e5
      have hr5 := hr3.modT (Mod.ext (S := []) (e4.trans e5)) (.nil _ _)
      refine ⟨⟨hb5, b5⟩, ?_⟩
      refine GoN.does pl28 (push st5.i h1 h64 hok5) ?_
      rintro r w6 ⟨m6, rfl, hq6⟩
      have hSnt : ∀ e, 35 ≠ e → 99 ≠ e → NoT w5 e [a.iq, a.ig] := fun e x y => st5.i.noT x y
      have hb6 : Blk w6 a.st (stC a rv s) 81 := hb5.mod m6 fun hk => hSnt 81 (by decide) (by decide) _ hk _ hb5
      have hr6 := hr5.modT m6 (hSnt _ (by decide) (by decide))
      obtain ⟨r1, q1, _, _, _, og5, oq5, _⟩ := st5.o.h
      obtain ⟨r2, q2, _, _, _, ig5, iq5, _⟩ := st5.i.h
      have hn1 := h.n1
      have hn2 := h.n2
      have st6 : StAt w6 N a { s with inn := pushQ N s.inn f } := ⟨⟨rv, hb6, hr6, hl⟩, st5.o.mod m6 (hSnt _ (by decide) (by decide)) (by
          have := oq5.ne ig5 (by decide)
          simp; omega) (by
          have := og5.ne iq5 (by decide)
          simp; omega), hq6, hn1, hn2⟩
      have b6 := b5.mod m6 (by have := h.i.lt; simp; omega)
      refine ⟨⟨hb6, b6⟩, ?_⟩
      have m06 : Mod a.blocks w w6 := (Mod.ext e05).trans (m6.mono (by simp [SG.blocks]))
      by_cases hf : s.inn.length = N
      · rw [if_pos hf]
        unfold errno
        refine Pure.g (e_nil _ _ _ _) ?_
        rw [CondP.tt]
        have hP : hearP N (some f) s = { s with dropped := inc s.dropped } := by unfold hearP; simp only [ht, if_pos hf]; rfl
        have hq : pushQ N s.inn f = s.inn := by unfold pushQ; rw [if_pos hf]
        rw [hq] at st6
        refine r_bump hb6 fld64_4 rfl fun w7 c7 b7 => ?_
        rw [hP]
        exact ⟨m06.trans (Mod.chg c7 hst), st6.bump hb6 hr6 hl c7 b7 rfl rfl rfl⟩
      · rw [if_neg hf]
        refine Pure.g (e_nilnil _) ?_
        rw [CondP.ff]
        have hP : hearP N (some f) s = { s with taken := inc s.taken, inn := s.inn ++ [f] } := by unfold hearP; simp only [ht, if_neg hf]; rfl
        have hq : pushQ N s.inn f = s.inn ++ [f] := by unfold pushQ; rw [if_neg hf]
        rw [hq] at st6
        refine r_bump hb6 fld64_1 rfl fun w7 c7 b7 => ?_
        rw [hP]
        exact ⟨m06.trans (Mod.chg c7 hst), st6.bump (s := { s with inn := s.inn ++ [f] }) hb6 hr6 hl c7 b7 rfl rfl rfl⟩
/-! Telling. -/
def tellTo (N : Nat) (src : Int) (r : Option DFr) (ss : List PS) : Nat → List PS
  | 0 => ss
  | k + 1 => if (k : Int) = src then tellTo N src r ss k else
    match ss[k]? with
    | some s => (tellTo N src r ss k).set k (hearP N r s)
    | none => tellTo N src r ss k
def tellP (N : Nat) (src : Int) (r : Option DFr) (ss : List PS) : List PS := tellTo N src r ss ss.length
theorem tellTo_len (N : Nat) (src : Int) (r : Option DFr) (ss : List PS) : ∀ k, (tellTo N src r ss k).length = ss.length
  | 0 => rfl
  | k + 1 => by
    unfold tellTo
    split
    · exact tellTo_len N src r ss k
    · split
      · rw [List.length_set]; exact tellTo_len N src r ss k
      · exact tellTo_len N src r ss k
theorem tellTo_get (N : Nat) (src : Int) (r : Option DFr) (ss : List PS) : ∀ k i, (tellTo N src r ss k)[i]? = (ss[i]?).map fun s => if i < k ∧ (i : Int) ≠ src then hearP N r s else s
  | 0, i => by simp [tellTo]
  | k + 1, i => by
    have ih := tellTo_get N src r ss k
    unfold tellTo
    split
    · rename_i hk
      rw [ih]
      congr 1; funext s
      by_cases h : i < k ∧ (i : Int) ≠ src
      · rw [if_pos h, if_pos (by omega)]
      · rw [if_neg h, if_neg (by omega)]
    · rename_i hk
      cases hs : ss[k]? with
      | none =>
        rw [ih]
        have hlen := List.getElem?_eq_none_iff.1 hs
        cases hi : ss[i]? with
        | none => rfl
        | some s =>
          have := (List.getElem?_eq_some_iff.1 hi).1
          simp only [Option.map_some]
          congr 1
          by_cases h : i < k ∧ (i : Int) ≠ src
          · rw [if_pos h, if_pos (by omega)]
          · rw [if_neg h, if_neg (by omega)]
      | some s =>
        have hlt := (List.getElem?_eq_some_iff.1 hs).1
        by_cases hik : k = i
        · subst hik
          rw [List.getElem?_set_self (by rw [tellTo_len]; exact hlt), hs]
          simp only [Option.map_some]
          rw [if_pos ⟨by omega, hk⟩]
        · rw [List.getElem?_set_ne hik, ih]
          congr 1; funext s
          by_cases h : i < k ∧ (i : Int) ≠ src
          · rw [if_pos h, if_pos (by omega)]
          · rw [if_neg h, if_neg (by omega)]
theorem iSt (a : Nat) : Pure Try.prog (Instr.makeInterface 78 (ptr a)) (.iface 78 (ptr a)) := fun w => by kernel_rfl
theorem mHear (a : Nat) (fr err : Value) (w : World) : (callMethod (.iface 78 (ptr a)) "busbar/bus.hear" #[fr, err]).run Try.prog w = .ok (.enter 79 #[ptr a, fr, err]) w := by kernel_rfl
theorem GoN.enter {s : Sem Next} {f : FuncId} {args : List Value} {w : World} {K R : Value → World → Prop} (hc : s.run Try.prog w = .ok (.enter f args.toArray) w) (hd : Does Try.prog f args w R) (hk : ∀ v w', R v w' → K v w') : GoN Try.prog s w K := by
  refine ⟨?_⟩
  rw [hc]
  exact hd.mono hk
end Go.Proofs.Ytfdjkdiebabimaa.Sh
