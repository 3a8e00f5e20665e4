/- A tick; counts; what waits. Conditions: lengths up to 2^29. -/
import Derived.Test.YtfdjkdiebabimaaCh
set_option linter.unusedVariables false
set_option linter.unusedSimpArgs false
set_option maxRecDepth 10000
namespace Go.Proofs.Ytfdjkdiebabimaa.Sh
open Go Go.V Go.RowKit Go.Proofs.Ytfdjkdiebabimaa.Bp

def lateStep (N : Nat) (acc : List PS × List DLate) (x : DLate) : List PS × List DLate :=
  let y : DLate := ⟨x.src, x.bits, x.twice, IntKind.i64.wrap (x.wait - 1)⟩
  if 0 < y.wait then (acc.1, acc.2 ++ [y]) else (comesP N y acc.1, acc.2)
def lateP (N : Nat) (ss : List PS) (lt : List DLate) : List PS × List DLate := lt.foldl (lateStep N) (ss, [])
theorem late_snoc {N : Nat} {ss : List PS} {lt : List DLate} {k : Nat} {x : DLate} (h : lt[k]? = some x) : lateP N ss (lt.take (k + 1)) = lateStep N (lateP N ss (lt.take k)) x := by
  have hk := (List.getElem?_eq_some_iff.1 h).1
  unfold lateP
  rw [List.take_succ_eq_append_getElem hk, (List.getElem?_eq_some_iff.1 h).2, List.foldl_append]
  rfl
theorem lateStep_len (N : Nat) (acc : List PS × List DLate) (x : DLate) : (lateStep N acc x).1.length = acc.1.length := by
  unfold lateStep
  simp only
  split
  · rfl
  · exact comesP_len _ _ _
theorem lateP_len (N : Nat) : ∀ (lt : List DLate) (acc : List PS × List DLate), (lt.foldl (lateStep N) acc).1.length = acc.1.length
  | [], _ => rfl
  | x :: lt, acc => by
    show (lt.foldl (lateStep N) (lateStep N acc x)).1.length = _
    rw [lateP_len N lt, lateStep_len]
theorem lateP_few (N : Nat) : ∀ (lt : List DLate) (acc : List PS × List DLate), (lt.foldl (lateStep N) acc).2.length ≤ acc.2.length + lt.length
  | [], _ => by simp
  | x :: lt, acc => by
    show (lt.foldl (lateStep N) (lateStep N acc x)).2.length ≤ _
    have h1 := lateP_few N lt (lateStep N acc x)
    have h2 : (lateStep N acc x).2.length ≤ acc.2.length + 1 := by
      unfold lateStep
      simp only
      split <;> simp
    rw [List.length_cons]; omega
/-- A tick: the error's number, the stations, what is late. -/
def tickP (N : Nat) (ss : List PS) (lt : List DLate) (x : DWire) : Int × List PS × List DLate :=
  match firstP ss with
  | none => if lt.length = 0 then (25, ss, lt) else (0, (lateP N ss lt).1, (lateP N ss lt).2)
  | some (j, f) => (0, (lateP N (goesP N ss j f x).1 lt).1, (lateP N (goesP N ss j f x).1 lt).2 ++ (goesP N ss j f x).2)
/-- All frames that wait can be sent. -/
def OutOk (ss : List PS) : Prop := ∀ s ∈ ss, ∀ f ∈ s.out, Valid f
structure TickR (b N : Nat) (gs : List SG) (p : Int × List PS × List DLate) (w : World) (r : Value) (w' : World) : Prop where
  mod : Mod (foot b gs) w w'
  bus : BusAt w' b N gs p.2.1 p.2.2
  val : r = errV p.1
theorem flat_app {α β : Type} (f : α → List β) (l : List α) (x : α) : (l ++ [x]).flatMap f = l.flatMap f ++ f x := by simp
theorem tick {m : Mem} {w : World} {b N : Nat} {gs : List SG} {ss : List PS} {lt : List DLate} {fv : Value} {x : DWire} (h : BusAt w b N gs ss lt) (h1 : 1 ≤ N) (h64 : N ≤ 64) (hl : ss.length ≤ 1073741824) (hlt : lt.length ≤ 536870912)
    (hout : OutOk ss) (hm : Sub m w) (hoff : ∀ k ∈ foot b gs, Off m k) (hfv : Ints m fv x.flips) (hfn : x.flips.length ≤ 1073741824) :
    Does Try.prog 13 [ptr b, wireA x fv] w (TickR b N gs (tickP N ss lt x) w) := by
  obtain ⟨sv, lv, hc, hla⟩ := h.core
  obtain ⟨pf, cf, rfl, hcf⟩ := hfv.form
  refine D13 ?_
  unfold S13
  refine r_box fun w1 e1 z1 b1 => ?_
  have b1 : Blk w1 w.heap.size (wireC x (.slice pf x.flips.length cf)) 38 := b1
  refine GoN.does pl31 (first (hc.ext e1) h64 hl) ?_
  rintro r w2 ⟨e2, hr⟩
  have e02 := e1.trans e2
  have hnt : ∀ {e : TypeId}, 74 ≠ e → 35 ≠ e → 99 ≠ e → 81 ≠ e → NoT w e (foot b gs) := fun a b c d => hc.noT a b c d
  obtain ⟨es, hes, hlo, hlk⟩ := hla.h
  obtain ⟨pl, cl, hlv, hcl⟩ := hlo.len
  -- what is late, told
  have rest : ∀ (w3 : World) (ss3 : List PS) (mv : Value) (more : List DLate), Mod (foot b gs) w w3 → Core w3 b N gs sv lv ss3 → ss3.length = ss.length → LateAt w3 mv more → more.length ≤ 1 → (more = [] → mv = .slice none 0 0) → (∀ g, mv.ownBlock = some g → w.heap.size ≤ g) →
      ∀ t5, Run Try.prog (nilSem (ptr b)) w3 fun t44 w26 => Run Try.prog (Instr.fieldAt 74 t44 1) w26 fun t45 w27 => Run Try.prog (Instr.loadAt 72 t45) w27 fun t46 w28 => Run Try.prog (Builtin.len_ #[72] 3 #[t46]) w28 fun t47 w29 =>
      JoinP 2 (fun (k13 : N2) =>
        LoopP 2 (fun (k14 : N2) => (fun (still_10 : Value) (t48 : Value) (w30 : World) =>
          Run Try.prog (binSem .lss 3 (.tmp 48) (.tmp 47) t48 t47) w30 fun t49 w31 =>
          CondP t49 0 (fun (k15 : N0) => k15 w31) (fun (k16 : N0) => k13 still_10 t48 w31)
          (fun (w32 : World) =>
          JoinP 1 (fun (k17 : N1) =>
            Run Try.prog (Instr.indexAt 72 t46 t48) w32 fun t50 w33 => Run Try.prog (Instr.loadAt 91 t50) w33 fun t51 w34 => Run Try.prog (Instr.alloc 91 true (.tuple #[])) w34 fun x_12 w35 => RunU Try.prog (Instr.storeAt 91 x_12 t51) w35 fun w36 =>
            Run Try.prog (Instr.fieldAt 91 x_12 3) w36 fun t52 w37 => Run Try.prog (Instr.loadAt 3 t52) w37 fun t53 w38 => Run Try.prog (binSem .sub 3 (.tmp 53) (.const (.int .i64 1)) t53 (.int .i64 1)) w38 fun t54 w39 =>
            Run Try.prog (Instr.fieldAt 91 x_12 3) w39 fun t55 w40 => RunU Try.prog (Instr.storeAt 3 t55 t54) w40 fun w41 => Run Try.prog (Instr.fieldAt 91 x_12 3) w41 fun t56 w42 => Run Try.prog (Instr.loadAt 3 t56) w42 fun t57 w43 =>
            Run Try.prog (binSem .gtr 3 (.tmp 57) (.const (.int .i64 0)) t57 (.int .i64 0)) w43 fun t58 w44 =>
            CondP t58 1 (fun (k18 : N1) => Run Try.prog (Instr.loadAt 91 x_12) w44 fun t60 w45 => Run Try.prog (Instr.buildSlice 72 1 #[(0, t60)]) w45 fun t61 w46 => Run Try.prog (Builtin.append_ #[72, 72] 72 #[still_10, t61]) w46 fun t62 w47 => k18 t62 w47)
            (fun (k19 : N1) => Run Try.prog (Instr.loadAt 91 x_12) w44 fun t64 w48 => GoN Try.prog (callFunc 33 #[ptr b, t64]) w48 fun t65 w49 => k19 still_10 w49)
            (fun (still_10 : Value) (w50 : World) => k17 still_10 w50))
          (fun (still_10 : Value) (w51 : World) => Run Try.prog (binSem .add 3 (.tmp 48) (.const (.int .i64 1)) t48 (.int .i64 1)) w51 fun t66 w52 => k14 still_10 t66 w52))))
        [(.slice none 0 0), (.int .i64 0)] w29)
      (fun (still_10 : Value) (t48 : Value) (w53 : World) =>
      Run Try.prog (Builtin.append_ #[72, 72] 72 #[still_10, mv]) w53 fun t70 w54 => Run Try.prog (nilSem (ptr b)) w54 fun t71 w55 => Run Try.prog (Instr.fieldAt 74 t71 1) w55 fun t72 w56 => RunU Try.prog (Instr.storeAt 72 t72 t70) w56 fun w57 =>
      TickR b N gs (t5, (lateP N ss3 lt).1, (lateP N ss3 lt).2 ++ more) w (errV t5) w57) := by
    intro w3 ss3 mv more m3 c3 hl3 hmore hm1 hmn hmlow t5
    rw [nil_r, Pure.run (p_field (o := 0) fld74_1), ld1 c3.blk one72 (o := 0 + 1) rfl, hlv, Pure.run (p_len sl72.slice)]
    simp only [JoinP.eq]
    have hel : es.length = lt.length := by rw [← hes]; simp
    refine LoopP.of2 (fun st i w' => ∃ (k : Nat) (ds : List LEnt), k ≤ lt.length ∧ i = .int .i64 k ∧ Mod (foot b gs) w w' ∧ Core w' b N gs sv lv (lateP N ss3 (lt.take k)).1 ∧ ds.map (·.1) = (lateP N ss3 (lt.take k)).2 ∧ Own w' 91 4 st (lateP N ss3 (lt.take k)).2.length (ds.flatMap lateC) ∧ (∀ e ∈ ds, LateOk w' e) ∧ (∀ g, st.ownBlock = some g → w3.heap.size ≤ g) ∧ Mod (foot b gs) w3 w') (fun _ i _ => lt.length - (intOf i).toNat)
      ⟨0, [], Nat.zero_le _, rfl, m3, c3, rfl, Own.nil _ _ _, by simp, fun g hg => by simp [Value.ownBlock] at hg, Mod.refl _ _⟩ ?_
    rintro st _ w4 ⟨k, ds, hk, rfl, m4, c4, hds, host, hdk, hslow, m34⟩
    have hw3 := m3.size
    simp only [lss_r]
    have hdl : ds.length = (lateP N ss3 (lt.take k)).2.length := by rw [← hds]; simp
    have hfew : (lateP N ss3 (lt.take k)).2.length ≤ k := by
      have := lateP_few N (lt.take k) (ss3, [])
      rw [List.length_take] at this
      have h2 : (([] : List DLate)).length = 0 := rfl
      unfold lateP; simp only at this; simp only [List.length_nil] at this; omega
    refine CondP.dec (fun hlt' => ?_) (fun hlt' => ?_)
    · have hk' : k < lt.length := by omega
      obtain ⟨e, he⟩ : ∃ e, es[k]? = some e := ⟨es[k]'(by omega), by simp [hel, hk']⟩
      have hek : lt[k]? = some e.1 := by rw [← hes, List.getElem?_map, he]; rfl
      have hem : e ∈ es := List.mem_of_getElem? he
      obtain ⟨⟨src, bits, twice, wait⟩, u⟩ := e
      have hok0 := hlk _ hem
      have hok4 : LateOk w4 (⟨src, bits, twice, wait⟩, u) := hok0.modT m4 (hnt (by decide) (by decide) (by decide) (by decide))
      have hlo4 := hlo.modT m4 (hnt (by decide) (by decide) (by decide) (by decide))
      have hn : 0 < lt.length := by omega
      rw [hlv] at hlo4
      obtain ⟨g, c, hge, _, hat⟩ := hlo4.at hn
      injection hge with hge1 _ _
      subst hge1
      try simp only [JoinP.eq]
      rw [Pure.run (p_idx (e := 91) (sz := 4) sl72.slice size91 (by omega) (by omega))]
      refine r_loadN agg91 (l := lateC (⟨src, bits, twice, wait⟩, u)) rfl ?_ ?_
      · intro j y hj
        have := flat_get lateC 4 es k j _ y (fun _ _ => rfl) he hj
        have h2 := hat _ y this
        simpa [Nat.add_assoc] using h2
      refine r_alloc zero91 fun w5 e5 z5 b5 => ?_
      refine r_store size91 (l := lateC (⟨src, bits, twice, wait⟩, u)) rfl rfl (late_one hok4) b5 (show 0 + 4 ≤ 4 by decide) fun w6 c6 b6 => ?_
      have b6 : Blk w6 w4.heap.size (lateC (⟨src, bits, twice, wait⟩, u)) 91 := b6
      rw [Pure.run (p_field (o := 0) fld91_3), ld1 b6 one3 (o := 0 + 3) rfl, sub_r, Pure.run (p_field (o := 0) fld91_3)]
      refine r_store size3 (l := [.int .i64 (IntKind.i64.wrap (wait - 1))]) rfl rfl (all_one rfl) b6 (show 0 + 3 + 1 ≤ 4 by decide) fun w7 c7 b7 => ?_
      have b7 : Blk w7 w4.heap.size (lateC (⟨src, bits, twice, IntKind.i64.wrap (wait - 1)⟩, u)) 91 := b7
      rw [Pure.run (p_field (o := 0) fld91_3), ld1 b7 one3 (o := 0 + 3) rfl, gtr_r]
      have e47 : Ext w4 w7 := (e5.chg c6 (Nat.le_refl _)).chg c7 (Nat.le_refl _)
      have hok7 : LateOk w7 (⟨src, bits, twice, IntKind.i64.wrap (wait - 1)⟩, u) := ⟨(hok4.modT (Mod.ext (S := []) e47) (.nil _ _)).own, hok4.len⟩
      have hstep := late_snoc (N := N) (ss := ss3) hek
      have succW : Value.int .i64 (IntKind.i64.wrap ((k : Int) + 1)) = .int .i64 ((k + 1 : Nat) : Int) := succ64 (by omega)
      have hdec : lt.length - (intOf (Value.int .i64 (IntKind.i64.wrap ((k : Int) + 1)))).toNat < lt.length - (intOf (.int .i64 (k : Int))).toNat := by
        rw [succW]; simp [intOf]; omega
      have host7 := host.ext e47
      have hdk7 : ∀ e ∈ ds, LateOk w7 e := fun e he => (hdk e he).modT (Mod.ext (S := []) e47) (.nil _ _)
      refine CondP.dec (fun hw => ?_) (fun hw => ?_)
      · have hst1 : lateStep N (lateP N ss3 (lt.take k)) ⟨src, bits, twice, wait⟩ = ((lateP N ss3 (lt.take k)).1, (lateP N ss3 (lt.take k)).2 ++ [⟨src, bits, twice, IntKind.i64.wrap (wait - 1)⟩]) := by
          unfold lateStep; simp only; rw [if_pos hw]
        rw [ldN b7 agg91 (o := 0) rfl]
        refine r_append1 sl72 host7 rfl (late_one hok7) (by unfold maxLen; omega) (by omega) fun st8 w8 ho8 g8 => ?_
        have hw47 := e47.size
        have hw34 := m34.size
        have m78 : Mod (match st.ownBlock with | some g => [g] | none => []) w7 w8 := Mod.grow g8 (by intro k hk; rw [hk]; simp)
        have hnn : ∀ k ∈ (match st.ownBlock with | some g => [g] | none => ([] : List Nat)), st.ownBlock = some k := by
          intro k hk
          cases hs : st.ownBlock with
          | none => rw [hs] at hk; simp at hk
          | some g => rw [hs] at hk; simp at hk; rw [hk]
        have hTy : ∀ e, 91 ≠ e → NoT w7 e (match st.ownBlock with | some g => [g] | none => ([] : List Nat)) := by
          intro e hne k hk l hb
          obtain ⟨l', hb'⟩ := host7.blk (hnn k hk)
          exact hne (hb'.inj hb).2
        have c7' := c4.ext e47
        have c8 : Core w8 b N gs sv lv (lateP N ss3 (lt.take k)).1 := c7'.mod m78 (fun q hq hq' => by
          have h1 := hslow q (hnn q hq')
          have h2 := c3.lt q hq
          omega) (hTy _ (by decide)) (hTy _ (by decide)) (hTy _ (by decide))
        have mmm : ∀ {S : List Nat} {w0 : World}, w0.heap.size ≤ w3.heap.size → Mod S w0 w7 → Mod S w0 w8 := fun hsz hm => hm.newS m78 fun q hq => .inr (Nat.le_trans hsz (hslow q (hnn q hq)))
        simp only [add_r]
        refine ⟨⟨k + 1, ds ++ [(⟨src, bits, twice, IntKind.i64.wrap (wait - 1)⟩, u)], by omega, succW, mmm hw3 (m4.trans (Mod.ext e47)), ?_, ?_, ?_, ?_, ?_, mmm (Nat.le_refl _) (m34.trans (Mod.ext e47))⟩, hdec⟩
        · rw [hstep, hst1]; exact c8
        · rw [hstep, hst1, List.map_append, hds]; rfl
        · rw [hstep, hst1, flat_app, List.length_append]; exact ho8
        · intro e he
          rcases List.mem_append.1 he with he | he
          · exact (hdk7 e he).modT m78 (hTy _ (by decide))
          · simp at he; subst he
            exact hok7.modT m78 (hTy _ (by decide))
        · exact g8.low (B := w3.heap.size) (by omega) hslow
      · have hst1 : lateStep N (lateP N ss3 (lt.take k)) ⟨src, bits, twice, wait⟩ = (comesP N ⟨src, bits, twice, IntKind.i64.wrap (wait - 1)⟩ (lateP N ss3 (lt.take k)).1, (lateP N ss3 (lt.take k)).2) := by
          unfold lateStep; simp only; rw [if_neg hw]
        rw [ldN b7 agg91 (o := 0) rfl]
        refine GoN.does pl33 (comes (c4.ext e47) h1 h64 (by
          unfold lateP; rw [lateP_len]; show ss3.length ≤ _; omega) hok7) ?_
        rintro _ w8 ⟨m8, c8⟩
        have hnt7 : ∀ {e : TypeId}, 74 ≠ e → 35 ≠ e → 99 ≠ e → 81 ≠ e → NoT w7 e (foot b gs) := fun a b c d => (c4.ext e47).noT a b c d
        simp only [add_r]
        refine ⟨⟨k + 1, ds, by omega, succW, (m4.trans (Mod.ext e47)).trans m8, ?_, ?_, ?_, ?_, hslow, (m34.trans (Mod.ext e47)).trans m8⟩, hdec⟩
        · rw [hstep, hst1]; exact c8
        · rw [hstep, hst1, hds]
        · rw [hstep, hst1]; exact host7.modT m8 (hnt7 (by decide) (by decide) (by decide) (by decide))
        · exact fun e he => (hdk7 e he).modT m8 (hnt7 (by decide) (by decide) (by decide) (by decide))
    · have hk' : k = lt.length := by omega
      subst hk'
      rw [List.take_length] at c4 hds host hdl hfew
      have hnt3 : ∀ {e : TypeId}, 74 ≠ e → 35 ≠ e → 99 ≠ e → 81 ≠ e → NoT w3 e (foot b gs) := fun a b c d => c3.noT a b c d
      have hmore4 : LateAt w4 mv more := hmore.modT m34 (hnt3 (by decide) (by decide) (by decide) (by decide)) (hnt3 (by decide) (by decide) (by decide) (by decide))
      obtain ⟨em, hem, hom, hmk⟩ := hmore4.h
      -- behind the append
      have fin : ∀ (v5 : Value) (w5 : World), Own w5 91 4 v5 ((lateP N ss3 lt).2.length + more.length) ((ds ++ em).flatMap lateC) → Grow w4 w5 st v5 →
          Run Try.prog (nilSem (ptr b)) w5 fun t71 w55 => Run Try.prog (Instr.fieldAt 74 t71 1) w55 fun t72 w56 => RunU Try.prog (Instr.storeAt 72 t72 v5) w56 fun w57 =>
            TickR b N gs (t5, (lateP N ss3 lt).1, (lateP N ss3 lt).2 ++ more) w (errV t5) w57 := by
        intro v5 w5 ho5 g5
        have m45 : Mod (match st.ownBlock with | some g => [g] | none => []) w4 w5 := Mod.grow g5 (by intro k hk; rw [hk]; simp)
        have hnn : ∀ k ∈ (match st.ownBlock with | some g => [g] | none => ([] : List Nat)), st.ownBlock = some k := by
          intro k hk
          cases hs : st.ownBlock with
          | none => rw [hs] at hk; simp at hk
          | some g => rw [hs] at hk; simp at hk; rw [hk]
        have hTy : ∀ e, 91 ≠ e → NoT w4 e (match st.ownBlock with | some g => [g] | none => ([] : List Nat)) := by
          intro e hne k hk l hb
          obtain ⟨l', hb'⟩ := host.blk (hnn k hk)
          exact hne (hb'.inj hb).2
        have c5 : Core w5 b N gs sv lv (lateP N ss3 lt).1 := c4.mod m45 (fun q hq hq' => by
          have h1 := hslow q (hnn q hq')
          have h2 := c3.lt q hq
          omega) (hTy _ (by decide)) (hTy _ (by decide)) (hTy _ (by decide))
        have m05 : Mod (foot b gs) w w5 := m4.newS m45 fun q hq => .inr (Nat.le_trans hw3 (hslow q (hnn q hq)))
        have hv5 : v5.cells.toList = [v5] ∧ v5.oneCell' = true := by
          obtain ⟨p', c', rfl, _⟩ := ho5.len; exact ⟨rfl, rfl⟩
        rw [nil_r, Pure.run (p_field (o := 0) fld74_1)]
        refine r_store size72 (l := [v5]) hv5.1 rfl (by intro y hy; simp at hy; subst hy; exact hv5.2) c5.blk (show 0 + 1 + 1 ≤ 2 by decide) fun w6 c6 b6 => ?_
        have b6 : Blk w6 b [sv, v5] 74 := b6
        have mb := Mod.one c6
        have nb : ∀ e, 74 ≠ e → NoT w5 e [b] := fun e hne => .one c5.blk hne
        have c66 : Core w6 b N gs sv v5 (lateP N ss3 lt).1 := ⟨b6, c5.own.modT mb (nb _ (by decide)), c5.len, fun i a s ha hs => (c5.st i a s ha hs).mod mb (nb _ (by decide)) (nb _ (by decide)) fun k hk hk' => by
          simp at hk'; subst hk'
          exact (c5.st i a s ha hs).noT (e := 74) (by decide) (by decide) (by decide) _ hk _ c5.blk, c5.apart⟩
        refine ⟨m05.trans (Mod.chg c6 (by simp [foot])), c66.bus ⟨ds ++ em, by rw [List.map_append, hds, hem], ?_, ?_⟩, rfl⟩
        · rw [List.length_append]; exact ho5.modT mb (nb _ (by decide))
        · intro e he
          rcases List.mem_append.1 he with he | he
          · exact ((hdk e he).modT m45 (hTy _ (by decide))).modT mb (nb _ (by decide))
          · exact ((hmk e he).modT m45 (hTy _ (by decide))).modT mb (nb _ (by decide))
      by_cases hmne : more = []
      · have hmv := hmn hmne
        subst hmv
        subst hmne
        have hem0 : em = [] := by simpa using hem
        subst hem0
        rw [Run.eq (run_append0 sl72 host)]
        exact fin st w4 (by simpa using host) ⟨rfl, rfl, rfl, Nat.le_refl _, fun _ _ _ => rfl, .inl rfl, .inl rfl⟩
      · have hml : 0 < more.length := by
          rcases more with _ | ⟨a, more⟩
          · exact absurd rfl hmne
          · simp
        obtain ⟨gm, cm, rfl, _, hatm⟩ := hom.at hml
        refine r_append sl72 host (news := em.flatMap lateC) hatm (by rw [flat_len lateC 4 em (fun _ _ => rfl)]; rw [← hem]; simp) (fun y hy => by
          obtain ⟨e, he, hy⟩ := List.mem_flatMap.1 hy
          exact late_one (hmk e he) y hy) (by unfold maxLen; omega) (by omega) fun v5 w5 ho5 g5 => ?_
        exact fin v5 w5 (by rw [List.flatMap_append]; exact ho5) g5
  cases hf : firstP ss with
  | none =>
    rw [hf] at hr
    subst hr
    rw [Pure.run (x2_0 _ _), Pure.run (x2_1 _ _)]
    refine r_alloc zero35 fun w3 e3 z3 b3 => ?_
    refine r_store size35 (l := frC DFr.zero (.slice none 0 0)) rfl rfl (all_one rfl) b3 (show 0 + 3 ≤ 3 by decide) fun w4 c4 b4 => ?_
    have e24 : Ext w2 w4 := e3.chg c4 (Nat.le_refl _)
    have e04 := e02.trans e24
    have hc4 := hc.ext e04
    rw [lss_r, show decide ((-1 : Int) < 0) = true from rfl]
    simp only [GuardP.yes, GuardP.undef, GuardP.no (show (true == false) = false from rfl), GuardP.no (show (false == true) = false from rfl), PickP.eq, CondP.tt, CondP.ff, if_true, Bool.false_eq_true, if_false]
    rw [nil_r, Pure.run (p_field (o := 0) fld74_1), ld1 hc4.blk one72 (o := 0 + 1) rfl]
    rw [hlv, Pure.run (p_len sl72.slice), eql_r, natdec0]
    by_cases hl0 : lt.length = 0
    · rw [decide_eq_true hl0]
      simp only [GuardP.yes, GuardP.undef, GuardP.no (show (true == false) = false from rfl), GuardP.no (show (false == true) = false from rfl), PickP.eq, CondP.tt, CondP.ff, if_true, Bool.false_eq_true, if_false]
      rw [Pure.run (i_err _)]
      have hT : tickP N ss lt x = (25, ss, lt) := by unfold tickP; rw [hf]; exact if_pos hl0
      rw [hT]
      exact ⟨Mod.ext e04, h.ext e04, (errV_ne (by decide)).symm⟩
    · rw [decide_eq_false hl0]
      simp only [GuardP.yes, GuardP.undef, GuardP.no (show (true == false) = false from rfl), GuardP.no (show (false == true) = false from rfl), PickP.eq, CondP.tt, CondP.ff, if_true, Bool.false_eq_true, if_false]
      rw [geq_r, show decide ((0 : Int) ≤ -1) = false from rfl, CondP.ff]
      have hT : tickP N ss lt x = (0, (lateP N ss lt).1, (lateP N ss lt).2 ++ []) := by unfold tickP; rw [hf, List.append_nil]; exact if_neg hl0
      rw [hT]
      have := rest w4 ss (.slice none 0 0) [] (Mod.ext e04) hc4 rfl (LateAt.nil _) (by simp) (fun _ => rfl) (fun g hg => by simp [Value.ownBlock] at hg) 0
      rw [errV_0] at this
      exact this
  | some p =>
    obtain ⟨j, f⟩ := p
    rw [hf] at hr
    obtain ⟨v, rfl, hok⟩ := hr
    rw [Pure.run (x2_0 _ _), Pure.run (x2_1 _ _)]
    refine r_alloc zero35 fun w3 e3 z3 b3 => ?_
    refine r_store size35 (l := frC f v) rfl rfl (ent_one hok) b3 (show 0 + 3 ≤ 3 by decide) fun w4 c4 b4 => ?_
    have b4 : Blk w4 w2.heap.size (frC f v) 35 := b4
    have e24 : Ext w2 w4 := e3.chg c4 (Nat.le_refl _)
    have e04 := e02.trans e24
    have hc4 := hc.ext e04
    obtain ⟨s, q, hs, ho⟩ := firstTo_get ss _ hf
    have hj := (List.getElem?_eq_some_iff.1 hs).1
    have hsj := (List.getElem?_eq_some_iff.1 hs).2
    have hva : Valid f := hout s (List.mem_of_getElem? hs) f (by rw [ho]; simp)
    rw [lss_r, show decide (((j : Nat) : Int) < 0) = false from decide_eq_false (by omega)]
    simp only [GuardP.yes, GuardP.undef, GuardP.no (show (true == false) = false from rfl), GuardP.no (show (false == true) = false from rfl), PickP.eq, CondP.tt, CondP.ff, if_true, Bool.false_eq_true, if_false]
    rw [geq_r, show decide ((0 : Int) ≤ ((j : Nat) : Int)) = true from decide_eq_true (by omega), CondP.tt, ldN b4 agg35 (o := 0) rfl, ldN ((b1.ext e2).ext e24) agg38 (o := 0) rfl]
    refine GoN.does pl32 (goes (x := x) hc4 h1 h64 hl hj (by rw [hsj]; exact ho) hva (hok.mod (Mod.ext (S := []) e24) (.nil _ _)) (hm.ext e04) hoff hfv hfn) ?_
    rintro r w5 ⟨⟨m5, c5⟩, mv, rfl, hmv, hmn, hml⟩
    rw [Pure.run (x2_0 _ _), Pure.run (x2_1 _ _), Pure.run (e_nilnil _), CondP.ff]
    have hT : tickP N ss lt x = (0, (lateP N (goesP N ss j f x).1 lt).1, (lateP N (goesP N ss j f x).1 lt).2 ++ (goesP N ss j f x).2) := by unfold tickP; rw [hf]
    rw [hT]
    have := rest w5 (goesP N ss j f x).1 mv (goesP N ss j f x).2 ((Mod.ext e04).trans m5) c5 (goesP_len _ _ _ _ _) hmv (goesP_few _ _ _ _ _) hmn (fun g hg => Nat.le_trans e04.size (hml g hg)) 0
    rw [errV_0] at this
    exact this
end Go.Proofs.Ytfdjkdiebabimaa.Sh
