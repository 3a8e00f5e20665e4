/- Errors' numbers; flips; frames sent. Conditions: lengths up to 2^30. -/
import Derived.Test.YtfdjkdiebabimaaCi
import Derived.WalkKit
import Derived.LaidEql
import Derived.Stop.Asserts
import Derived.Laws.Externs
set_option linter.unusedVariables false
set_option linter.unusedSimpArgs false
set_option maxRecDepth 10000
namespace Go.V
open Go.RowKit
variable {P : Program}
/-- A call of a function without a body. -/
theorem GoN.ext {f : FuncId} {fn : Func} {e : Array Value → Sem Value} {args : Array Value} {w w' : World} {v : Value} {K : Value → World → Prop} (hf : P.funcs[f]? = some fn) (hname : (fn.name == "runtime.NumGoroutine") = false)
    (hb : fn.body.isNone = true) (hn : Extern.findNext fn = none) (he : Extern.find fn = some e) (hr : (e args).run P w = .ok v w') (k : K v w') : GoN P (callFunc f args) w K := by
  refine ⟨?_⟩
  rw [run_callFunc_extern hf hname hb hn he, hr]
  exact k
/-- A call of a method of an interface value's dynamic type. -/
theorem GoN.methM {t : TypeId} {v r : Value} {name : String} {args : Array Value} {f : FuncId} {w : World} {K : Value → World → Prop} (hm : (Go.method (P.types.size + Made.depth) t v name).run P w = .ok (f, r) w)
    (k : GoN P (callFunc f (#[r] ++ args)) w K) : GoN P (callMethod (.iface t v) name args) w K := by
  refine ⟨?_⟩
  have : (callMethod (.iface t v) name args).run P w = (callFunc f (#[r] ++ args)).run P w := by
    simp [callMethod, Sem.run_bind, program, Sem.run, Result.andThen, hm]
  rw [this]
  exact k.h
end Go.V
namespace Go.Proofs.Ytfdjkdiebabimaa.Sh
open Go Go.V Go.RowKit Go.Extern Go.Proofs.Ytfdjkdiebabimaa.Bp

def hnd (t : Nat) : Value := .pointer (some ⟨0, t, none⟩)
def rty (t : Nat) : Value := .iface 116 (.agg #[hnd t])
theorem n_typeOfErrno (a : Int) (w : World) : (ReflectliteType.typeOf #[.iface 70 (.int .i64 a)]).run Try.prog w = .ok (rty 70) w := by kernel_rfl
theorem m_comparable (h : Value) (w : World) : (Go.method (Try.prog.types.size + Made.depth) 116 (.agg #[h]) "Comparable").run Try.prog w = .ok (83, .agg #[h]) w := by kernel_rfl
theorem n_comparable (w : World) : ((ReflectliteType.method fun t => do Rtype.noPackHeld "Comparable" t; pure (.bool (← typeInfo t).comparable)) #[.agg #[hnd 70]]).run Try.prog w = .ok (.bool true) w := by kernel_rfl
theorem a_isE (v : Value) (w : World) : (Instr.typeAssert (.iface 70 v) 27 118 true).run Try.prog w = .ok (.tuple #[.nilIface, .bool false]) w := run_typeAssert_lacksB Try.underlying118 (by kernel_rfl) (by kernel_rfl) v _ w
theorem a_unE (v : Value) (w : World) : (Instr.typeAssert (.iface 70 v) 27 121 true).run Try.prog w = .ok (.tuple #[.nilIface, .bool false]) w := run_typeAssert_lacksB Try.underlying121 (by kernel_rfl) (by kernel_rfl) v _ w
theorem a_ulE (v : Value) (w : World) : (Instr.typeAssert (.iface 70 v) 27 123 true).run Try.prog w = .ok (.tuple #[.nilIface, .bool false]) w := run_typeAssert_lacksB Try.underlying123 (by kernel_rfl) (by kernel_rfl) v _ w
theorem q_nil (x y : Operand) (t : TypeId) (v : Value) : Pure Try.prog (binSem .eql 27 x y (.iface t v) .nilIface) (.bool false) := fun w => by kernel_rfl
theorem q_nilnil (a : Nat) : Pure Try.prog (binSem .eql 27 (.tmp a) (.const .nilIface) .nilIface .nilIface) (.bool true) := fun w => by kernel_rfl
theorem q_ee (a b : Nat) (m n : Int) : Pure Try.prog (binSem .eql 27 (.tmp a) (.tmp b) (errno m) (errno n)) (.bool (m == n)) := fun w => by kernel_rfl
/-- errors.is of two numbers. -/
theorem is_ (no n : Int) (w : World) : Does Try.prog 41 [errno no, errno n, .bool true] w fun v w' => v = .bool (no == n) ∧ Ext w w' := by
  refine D41 ?_
  unfold S41
  simp only [JoinP.eq]
  refine LoopP.of2 (fun e _ w' => e = errno no ∧ Ext w w') (fun e _ _ => 0) ⟨rfl, Ext.refl _⟩ ?_
  rintro _ t6 w1 ⟨rfl, x1⟩
  simp only [JoinP.eq, PickP.eq, GuardP.yes, GuardP.undef, GuardP.no (show (true == false) = false from rfl), GuardP.no (show (false == true) = false from rfl), CondP.tt, CondP.ff, add_r, sub_r, mul_r, lss_r, leq_r, gtr_r, geq_r, eql_r, neq_r, eqs_r, nes_r, not_r, nil_r, Bool.not_true, Bool.not_false, if_true, if_false, Bool.false_eq_true, decide_true, decide_false, Nat.zero_add, Bool.and_true, Bool.true_and, Pure.run (q_ee _ _ _ _)]
  refine CondP.of (fun h => ?_) (fun h => ?_)
  · exact ⟨by rw [h], x1⟩
  · unfold errno
    simp only [Run.eq (a_isE _ _), Pure.run (x2_0 _ _), Pure.run (x2_1 _ _), JoinP.eq, PickP.eq, GuardP.yes, GuardP.undef, GuardP.no (show (true == false) = false from rfl), GuardP.no (show (false == true) = false from rfl), CondP.tt, CondP.ff, add_r, sub_r, mul_r, lss_r, leq_r, gtr_r, geq_r, eql_r, neq_r, eqs_r, nes_r, not_r, nil_r, Bool.not_true, Bool.not_false, if_true, if_false, Bool.false_eq_true, decide_true, decide_false, Nat.zero_add, Bool.and_true, Bool.true_and, Run.eq (a_unE _ _), Run.eq (a_ulE _ _)]
    exact ⟨by rw [h], x1⟩
theorem isErr (no n : Int) (w : World) : Does Try.prog 26 [errno no, errno n] w fun v w' => v = .bool (no == n) ∧ Ext w w' := by
  refine D26 ?_
  unfold S26
  unfold errno
  simp only [Pure.run (q_nil _ _ _ _), JoinP.eq, PickP.eq, GuardP.yes, GuardP.undef, GuardP.no (show (true == false) = false from rfl), GuardP.no (show (false == true) = false from rfl), CondP.tt, CondP.ff, add_r, sub_r, mul_r, lss_r, leq_r, gtr_r, geq_r, eql_r, neq_r, eqs_r, nes_r, not_r, nil_r, Bool.not_true, Bool.not_false, if_true, if_false, Bool.false_eq_true, decide_true, decide_false, Nat.zero_add, Bool.and_true, Bool.true_and]
  refine GoN.ext (e := ReflectliteType.typeOf) Try.func40 (by kernel_rfl) (by kernel_rfl) (by kernel_rfl) (by kernel_rfl) (n_typeOfErrno n w) ?_
  unfold rty
  refine GoN.methM (m_comparable _ _) (GoN.ext (e := (ReflectliteType.method fun t => do Rtype.noPackHeld "Comparable" t; pure (.bool (← typeInfo t).comparable))) Try.func83 (by kernel_rfl) (by kernel_rfl) (by kernel_rfl) (by kernel_rfl) (n_comparable w) ?_)
  exact GoN.does pl41 (is_ no n w) fun v w' h => h
/-- An error's number. -/
theorem num (no : Int) (w : World) (h1 : 1 ≤ no) (h2 : no ≤ 26) : Does Try.prog 9 [errno no] w fun v w' => v = .int .i64 no ∧ Ext w w' := by
  refine D9 ?_
  unfold S9
  rw [show errno no = .iface 70 (.int .i64 no) from rfl, Pure.run (q_nil _ _ _ _)]
  simp only [JoinP.eq, PickP.eq, GuardP.yes, GuardP.undef, GuardP.no (show (true == false) = false from rfl), GuardP.no (show (false == true) = false from rfl), CondP.tt, CondP.ff, add_r, sub_r, mul_r, lss_r, leq_r, gtr_r, geq_r, eql_r, neq_r, eqs_r, nes_r, not_r, nil_r, Bool.not_true, Bool.not_false, if_true, if_false, Bool.false_eq_true, decide_true, decide_false, Nat.zero_add, Bool.and_true, Bool.true_and]
  refine LoopP.of3 (fun _ f n w' => ∃ k : Int, 1 ≤ k ∧ k ≤ 27 ∧ n = .int .i64 k ∧ f = .int .i64 (if no < k then no else 0) ∧ Ext w w') (fun _ _ n _ => 27 - (intOf n).toNat) ⟨1, by omega, by omega, rfl, by rw [if_neg (by omega)], Ext.refl _⟩ ?_
  rintro _ _ _ w1 ⟨k, k1, k2, rfl, rfl, x1⟩
  simp only [leq_r]
  refine CondP.dec (fun h => ?_) (fun h => ?_)
  · simp only [JoinP.eq]
    rw [Pure.run (i_err _)]
    refine GoN.does pl26 (isErr no k w1) ?_
    rintro _ w2 ⟨rfl, x2⟩
    have fin : ∀ (f : Int), f = (if no < k + 1 then no else 0) → (∃ k_1 : Int, 1 ≤ k_1 ∧ k_1 ≤ 27 ∧ Value.int .i64 (IntKind.i64.wrap (k + 1)) = .int .i64 k_1 ∧ Value.int .i64 f = .int .i64 (if no < k_1 then no else 0) ∧ Ext w w2) ∧
        27 - (intOf (Value.int .i64 (IntKind.i64.wrap (k + 1)))).toNat < 27 - (intOf (Value.int .i64 k)).toNat := by
      rintro f rfl
      rw [wrap64_id (by omega) (by omega)]
      refine ⟨⟨k + 1, by omega, by omega, rfl, rfl, x1.trans x2⟩, ?_⟩
      simp only [intOf]; omega
    refine CondP.of (fun h => ?_) (fun h => ?_)
    · have hk : no = k := by simpa using h
      subst hk
      rw [if_neg (by omega)]
      simp only [JoinP.eq, PickP.eq, GuardP.yes, GuardP.undef, GuardP.no (show (true == false) = false from rfl), GuardP.no (show (false == true) = false from rfl), CondP.tt, CondP.ff, add_r, sub_r, mul_r, lss_r, leq_r, gtr_r, geq_r, eql_r, neq_r, eqs_r, nes_r, not_r, nil_r, Bool.not_true, Bool.not_false, if_true, if_false, Bool.false_eq_true, decide_true, decide_false, Nat.zero_add, Bool.and_true, Bool.true_and]
      exact fin no (by rw [if_pos (by omega)])
    · have hk : no ≠ k := by simpa using h
      simp only [JoinP.eq, PickP.eq, GuardP.yes, GuardP.undef, GuardP.no (show (true == false) = false from rfl), GuardP.no (show (false == true) = false from rfl), CondP.tt, CondP.ff, add_r, sub_r, mul_r, lss_r, leq_r, gtr_r, geq_r, eql_r, neq_r, eqs_r, nes_r, not_r, nil_r, Bool.not_true, Bool.not_false, if_true, if_false, Bool.false_eq_true, decide_true, decide_false, Nat.zero_add, Bool.and_true, Bool.true_and]
      exact fin _ (by split <;> split <;> omega)
  · rw [if_pos (by omega)]
    simp only [eql_r]
    rw [decide_eq_false (show ¬ no = 0 by omega)]
    simp only [JoinP.eq, PickP.eq, GuardP.yes, GuardP.undef, GuardP.no (show (true == false) = false from rfl), GuardP.no (show (false == true) = false from rfl), CondP.tt, CondP.ff, add_r, sub_r, mul_r, lss_r, leq_r, gtr_r, geq_r, eql_r, neq_r, eqs_r, nes_r, not_r, nil_r, Bool.not_true, Bool.not_false, if_true, if_false, Bool.false_eq_true, decide_true, decide_false, Nat.zero_add, Bool.and_true, Bool.true_and]
    rw [Pure.run (i_err _)]
    refine GoN.does pl26 (isErr no 0 w1) ?_
    rintro _ w2 ⟨rfl, x2⟩
    have : (no == 0) = false := by simp; omega
    rw [this]
    simp only [JoinP.eq, PickP.eq, GuardP.yes, GuardP.undef, GuardP.no (show (true == false) = false from rfl), GuardP.no (show (false == true) = false from rfl), CondP.tt, CondP.ff, add_r, sub_r, mul_r, lss_r, leq_r, gtr_r, geq_r, eql_r, neq_r, eqs_r, nes_r, not_r, nil_r, Bool.not_true, Bool.not_false, if_true, if_false, Bool.false_eq_true, decide_true, decide_false, Nat.zero_add, Bool.and_true, Bool.true_and]
    exact ⟨by first | rfl | trivial, x1.trans x2⟩
theorem num0 (w : World) : Does Try.prog 9 [.nilIface] w fun v w' => v = .int .i64 0 ∧ Ext w w' := by
  refine D9 ?_
  unfold S9
  rw [Pure.run (q_nilnil _), CondP.tt]
  exact ⟨rfl, Ext.refl _⟩
/-- The number of an error that is a number, or none. -/
theorem numV (no : Int) (w : World) (h1 : 0 ≤ no) (h2 : no ≤ 26) : Does Try.prog 9 [errV no] w fun v w' => v = .int .i64 no ∧ Ext w w' := by
  by_cases h : no = 0
  · subst h; rw [errV_0]; exact num0 w
  · rw [errV_ne h]; exact num no w (by omega) h2
def ivals (l : List Int) : List Value := l.map fun x => Value.int .i64 x
abbrev OInts (w : World) (v : Value) (l : List Int) : Prop := Own w 3 1 v l.length (ivals l)
theorem ivals_flat (l : List Int) : ivals l = l.flatMap fun x => [Value.int .i64 x] := by
  induction l with
  | nil => rfl
  | cons b l ih => simp [ivals] at ih ⊢; exact ih
theorem OInts.ints {w : World} {v : Value} {l : List Int} (h : OInts w v l) : Ints (memW w) v l := by
  unfold OInts at h
  rw [ivals_flat] at h
  exact h.sl (fun _ _ => rfl) (fun _ _ => rfl)
theorem five {m : Mem} {v : Value} {l : List Int} {w : World} (hm : Sub m w) (hv : Ints m v l) (hn : l.length ≤ 140737488355328) :
    Does Try.prog 12 [v] w fun r w' => Ext w w' ∧ OInts w' r (l.take 5) ∧ ∀ g, r.ownBlock = some g → w.heap.size ≤ g := by
  obtain ⟨p, c, rfl, hc⟩ := hv.form
  refine D12 ?_
  unfold S12
  simp only [JoinP.eq]
  refine LoopP.of2 (fun u i w' => ∃ k : Nat, k ≤ l.length ∧ k ≤ 5 ∧ i = .int .i64 k ∧ OInts w' u (l.take k) ∧ Ext w w' ∧ ∀ g, u.ownBlock = some g → w.heap.size ≤ g) (fun _ i _ => l.length - (intOf i).toNat)
    ⟨0, Nat.zero_le _, Nat.zero_le _, rfl, Own.nil _ _ _, Ext.refl _, fun g hg => by simp [Value.ownBlock] at hg⟩ ?_
  rintro u _ w1 ⟨k, hk, hk5, rfl, ho, e1, hlow⟩
  simp only [Pure.run (p_len sl36.slice), lss_r]
  have done : ¬ (k < l.length ∧ k < 5) → Ext w w1 ∧ OInts w1 u (l.take 5) ∧ ∀ g, u.ownBlock = some g → w.heap.size ≤ g := by
    intro h
    have : l.take k = l.take 5 := by
      rcases Nat.lt_or_ge k 5 with h1 | h1
      · have : k = l.length := by omega
        rw [this, List.take_length, List.take_of_length_le (by omega)]
      · rw [show k = 5 by omega]
    rw [this] at ho
    exact ⟨e1, ho, hlow⟩
  by_cases h1 : (k : Int) < (l.length : Int)
  · rw [decide_eq_true h1]
    simp only [JoinP.eq, PickP.eq, GuardP.yes, GuardP.undef, GuardP.no (show (true == false) = false from rfl), GuardP.no (show (false == true) = false from rfl), CondP.tt, CondP.ff, add_r, sub_r, mul_r, lss_r, leq_r, gtr_r, geq_r, eql_r, neq_r, eqs_r, nes_r, not_r, nil_r, Bool.not_true, Bool.not_false, if_true, if_false, Bool.false_eq_true, decide_true, decide_false, Nat.zero_add, Bool.and_true, Bool.true_and]
    refine CondP.dec (fun h => ?_) (fun h => ?_)
    · have hk' : k < l.length := by omega
      obtain ⟨x, hx⟩ : ∃ x, l[k]? = some x := ⟨l[k], by simp⟩
      obtain ⟨bl, ol, cs, rfl, _, _, _, hat, rfl⟩ := hv.get hx
      try simp only [JoinP.eq]
      rw [Pure.run (p_idx (e := 3) (sz := 1) sl36.slice size3 (by omega) (by omega))]
      refine r_load1 one3 (v := .int .i64 x) (by simpa using hat w1 (hm.ext e1) 0 _ rfl) ?_
      have hlt : (l.take k).length = k := by rw [List.length_take]; omega
      refine r_append1 sl36 ho rfl (all_one rfl) (by rw [hlt]; unfold maxLen; omega) (by rw [hlt]; omega) fun u2 w2 ho2 hg2 => ?_
      obtain ⟨x2, hl2⟩ := hg2.grw.isExt e1 hlow
      try simp only [add_r]
      refine ⟨⟨k + 1, by omega, by omega, succ64 (by omega), ?_, x2, hl2⟩, ?_⟩
      · have : l.take (k + 1) = l.take k ++ [x] := by rw [List.take_succ_eq_append_getElem hk', (List.getElem?_eq_some_iff.1 hx).2]
        rw [this]; unfold OInts ivals; rw [List.length_append, List.map_append]; exact ho2
      · rw [succ64 (by omega)]; simp [intOf]; omega
    · exact done (by omega)
  · rw [decide_eq_false h1]
    simp only [JoinP.eq, PickP.eq, GuardP.yes, GuardP.undef, GuardP.no (show (true == false) = false from rfl), GuardP.no (show (false == true) = false from rfl), CondP.tt, CondP.ff, add_r, sub_r, mul_r, lss_r, leq_r, gtr_r, geq_r, eql_r, neq_r, eqs_r, nes_r, not_r, nil_r, Bool.not_true, Bool.not_false, if_true, if_false, Bool.false_eq_true, decide_true, decide_false, Nat.zero_add, Bool.and_true, Bool.true_and]
    exact done (by omega)
/-! Frames sent. -/
abbrev Snt := Int × DFr
def sentC (x : Snt × Value) : List Value := .int .i64 x.1.1 :: frC x.1.2 x.2
structure SentAt (w : World) (v : Value) (l : List Snt) : Prop where
  h : ∃ es : List (Snt × Value), es.map (·.1) = l ∧ Own w 44 4 v l.length (es.flatMap sentC) ∧ ∀ e ∈ es, EntOk w (e.1.2, e.2)
theorem SentAt.nil (w : World) : SentAt w (.slice none 0 0) [] := ⟨[], rfl, Own.nil _ _ _, fun e he => by simp at he⟩
theorem SentAt.modT {w w' : World} {v : Value} {l : List Snt} {S : List Nat} (h : SentAt w v l) (m : Mod S w w') (h1 : NoT w 44 S) (h2 : NoT w 5 S) : SentAt w' v l := by
  obtain ⟨es, a, b, c⟩ := h.h
  exact ⟨es, a, b.modT m h1, fun e he => (c e he).mod m h2⟩
theorem SentAt.ext {w w' : World} {v : Value} {l : List Snt} (h : SentAt w v l) (e : Ext w w') : SentAt w' v l := h.modT (S := []) (Mod.ext e) (.nil _ _) (.nil _ _)
theorem sent_one {w : World} {x : Snt × Value} (h : EntOk w (x.1.2, x.2)) : ∀ u ∈ sentC x, u.oneCell' = true := by
  intro u hu
  rcases List.mem_cons.1 hu with rfl | hu
  · rfl
  · exact ent_one h u hu
def amongP (l : List Snt) (n : Int) (f : DFr) : Bool := l.any fun p => !decide (p.1 = n) && decide (p.2 = f)
theorem among {w : World} {sv v : Value} {l : List Snt} {n : Int} {f : DFr} (hs : SentAt w sv l) (hn : l.length ≤ 1073741824) (hf : EntOk w (f, v)) :
    Does Try.prog 15 [sv, .int .i64 n, frA f v] w fun r w' => Ext w w' ∧ r = .bool (amongP l n f) := by
  refine D15 ?_
  unfold S15
  refine r_box fun w1 e1 z1 b1 => ?_
  have b1 : Blk w1 w.heap.size (frC f v) 35 := b1
  obtain ⟨es, hes, hso, hek⟩ := hs.h
  have hel : es.length = l.length := by rw [← hes]; simp
  obtain ⟨ps, cs, rfl, _⟩ := hso.len
  simp only [JoinP.eq]
  refine LoopP.of2 (fun _ i w' => ∃ k : Nat, k ≤ l.length ∧ i = .int .i64 k ∧ amongP (l.take k) n f = false ∧ Ext w1 w') (fun _ i _ => l.length - (intOf i).toNat) ⟨0, Nat.zero_le _, rfl, rfl, Ext.refl _⟩ ?_
  rintro _ _ w2 ⟨k, hk, rfl, hno, e2⟩
  simp only [Pure.run (p_len sl31.slice), lss_r]
  refine CondP.dec (fun h => ?_) (fun h => ?_)
  · have hk' : k < l.length := by omega
    obtain ⟨e, he⟩ : ∃ e, es[k]? = some e := ⟨es[k]'(by omega), by simp [hel, hk']⟩
    obtain ⟨⟨by_, g⟩, u⟩ := e
    have hlk : l[k]? = some (by_, g) := by rw [← hes, List.getElem?_map, he]; rfl
    have hgk : EntOk w (g, u) := hek _ (List.mem_of_getElem? he)
    try simp only [JoinP.eq]
    intro w3 e3
    have e03 := (e1.trans e2).trans e3
    have hso3 := hso.ext e03
    obtain ⟨gb, cb, hge, _, hat⟩ := hso3.at (by omega)
    injection hge with hge1 _ _
    subst hge1
    have b3 := (b1.ext e2).ext e3
    have hcell : ∀ (j : Nat) (y : Value), (sentC ((by_, g), u))[j]? = some y → w3.cell? ⟨gb, k * 4 + j, none⟩ = some y := by
      intro j y hj
      have h1 := flat_get sentC 4 es k j _ y (fun _ _ => rfl) he hj
      simpa using hat _ y h1
    have htk : l.take (k + 1) = l.take k ++ [(by_, g)] := by rw [List.take_succ_eq_append_getElem hk', (List.getElem?_eq_some_iff.1 hlk).2]
    have fin : ∀ {w' : World}, (!decide (by_ = n) && decide (g = f)) = false → Ext w1 w' → (∃ k_1 : Nat, k_1 ≤ l.length ∧ Value.int .i64 (IntKind.i64.wrap ((k : Int) + 1)) = .int .i64 (k_1 : Nat) ∧ amongP (l.take k_1) n f = false ∧ Ext w1 w') ∧
        l.length - (intOf (Value.int .i64 (IntKind.i64.wrap ((k : Int) + 1)))).toNat < l.length - (intOf (.int .i64 (k : Int))).toNat := by
      intro w' hh e'
      refine ⟨⟨k + 1, by omega, succ64 (by omega), ?_, e'⟩, ?_⟩
      · rw [htk]; unfold amongP at hno ⊢; rw [List.any_append, hno]; simpa using hh
      · rw [succ64 (by omega)]; simp [intOf]; omega
    rw [Pure.runQ (p_idx (e := 44) (sz := 4) sl31.slice size44 (by omega) (by omega)), show 0 + (k : Int).toNat * 4 = k * 4 by simp, Pure.runQ (p_field (o := k * 4) fld44_0), ldcQ one3 (hcell 0 _ rfl), neq_q]
    by_cases hb : by_ = n
    · rw [decide_eq_true hb]
      simp only [PickQ.eq, GuardQ.yes, GuardQ.undef, GuardQ.no (show (true == false) = false from rfl), GuardQ.no (show (false == true) = false from rfl), eql_q, neq_q, lss_q, add_q, sub_q, eqs_q, nes_q, not_q, JoinP.eq, PickP.eq, GuardP.yes, GuardP.undef, GuardP.no (show (true == false) = false from rfl), GuardP.no (show (false == true) = false from rfl), CondP.tt, CondP.ff, add_r, sub_r, mul_r, lss_r, leq_r, gtr_r, geq_r, eql_r, neq_r, eqs_r, nes_r, not_r, nil_r, Bool.not_true, Bool.not_false, if_true, if_false, Bool.false_eq_true, decide_true, decide_false, Nat.zero_add, Bool.and_true, Bool.true_and]
      exact ⟨Ext.refl _, fin (by rw [decide_eq_true hb]; rfl) (e2.trans e3)⟩
    · rw [decide_eq_false hb]
      simp only [PickQ.eq, GuardQ.yes, GuardQ.undef, GuardQ.no (show (true == false) = false from rfl), GuardQ.no (show (false == true) = false from rfl), eql_q, neq_q, lss_q, add_q, sub_q, eqs_q, nes_q, not_q, JoinP.eq, PickP.eq, GuardP.yes, GuardP.undef, GuardP.no (show (true == false) = false from rfl), GuardP.no (show (false == true) = false from rfl), CondP.tt, CondP.ff, add_r, sub_r, mul_r, lss_r, leq_r, gtr_r, geq_r, eql_r, neq_r, eqs_r, nes_r, not_r, nil_r, Bool.not_true, Bool.not_false, if_true, if_false, Bool.false_eq_true, decide_true, decide_false, Nat.zero_add, Bool.and_true, Bool.true_and]
      rw [Pure.runQ (p_idx (e := 44) (sz := 4) sl31.slice size44 (by omega) (by omega)), show 0 + (k : Int).toNat * 4 = k * 4 by simp, Pure.runQ (p_field (o := k * 4) fld44_1)]
      refine q_loadN agg35 (l := frC g u) rfl ?_ ?_
      · intro j y hj
        have := hcell (1 + j) y (by rw [Nat.add_comm]; exact hj)
        rw [← this]; congr 2; omega
      · rw [ldNQ b3 agg35 (o := 0) rfl]
        have hm : Sub (memW w) w3 := (Sub.self w).ext e03
        refine GoN.does pl20 (sameF hm (ent_sl hgk) (ent_sl hf) hgk.inr.len) ?_
        rintro _ w4 ⟨e4, rfl⟩
        refine ⟨e4, ?_⟩
        by_cases hgf : g = f
        · rw [decide_eq_true hgf]
          simp only [PickQ.eq, GuardQ.yes, GuardQ.undef, GuardQ.no (show (true == false) = false from rfl), GuardQ.no (show (false == true) = false from rfl), eql_q, neq_q, lss_q, add_q, sub_q, eqs_q, nes_q, not_q, JoinP.eq, PickP.eq, GuardP.yes, GuardP.undef, GuardP.no (show (true == false) = false from rfl), GuardP.no (show (false == true) = false from rfl), CondP.tt, CondP.ff, add_r, sub_r, mul_r, lss_r, leq_r, gtr_r, geq_r, eql_r, neq_r, eqs_r, nes_r, not_r, nil_r, Bool.not_true, Bool.not_false, if_true, if_false, Bool.false_eq_true, decide_true, decide_false, Nat.zero_add, Bool.and_true, Bool.true_and]
          refine ⟨((e1.trans e2).trans e3).trans e4, ?_⟩
          have : amongP l n f = true := List.any_eq_true.2 ⟨_, List.mem_of_getElem? hlk, by simp [hb, hgf]⟩
          rw [this]
        · rw [decide_eq_false hgf]
          simp only [PickQ.eq, GuardQ.yes, GuardQ.undef, GuardQ.no (show (true == false) = false from rfl), GuardQ.no (show (false == true) = false from rfl), eql_q, neq_q, lss_q, add_q, sub_q, eqs_q, nes_q, not_q, JoinP.eq, PickP.eq, GuardP.yes, GuardP.undef, GuardP.no (show (true == false) = false from rfl), GuardP.no (show (false == true) = false from rfl), CondP.tt, CondP.ff, add_r, sub_r, mul_r, lss_r, leq_r, gtr_r, geq_r, eql_r, neq_r, eqs_r, nes_r, not_r, nil_r, Bool.not_true, Bool.not_false, if_true, if_false, Bool.false_eq_true, decide_true, decide_false, Nat.zero_add, Bool.and_true, Bool.true_and]
          exact fin (by rw [decide_eq_false hgf, Bool.and_false]) ((e2.trans e3).trans e4)
  · have hk' : k = l.length := by omega
    subst hk'
    rw [List.take_length] at hno
    exact ⟨e1.trans e2, by rw [hno]⟩
end Go.Proofs.Ytfdjkdiebabimaa.Sh
