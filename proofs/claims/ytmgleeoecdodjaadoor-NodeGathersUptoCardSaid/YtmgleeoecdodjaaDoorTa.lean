/- Lists of texts: marks, lists that are lent with marks behind them, and whether they were kept. Conditions: lengths up to 2^30. -/
import Derived.Test.YtmgleeoecdodjaaDoorFa
import Derived.Test.YtmgleeoecdodjaaDoorV10
import Derived.Test.YtmgleeoecdodjaaDoorSh
set_option linter.unusedVariables false
set_option linter.unusedSimpArgs false
set_option maxRecDepth 10000
namespace Go.Proofs.YtmgleeoecdodjaaDoor.Sh
open Go Go.V Go.RowKit

/-- The bytes of a mark. -/
def markL (k i : Int) : List Int := [35, IntKind.u8.wrap k, IntKind.u8.wrap (k.fdiv (2 ^ (min (Int.toNat 8) IntKind.i64.bits))), IntKind.u8.wrap i, IntKind.u8.wrap (i.fdiv (2 ^ (min (Int.toNat 8) IntKind.i64.bits)))]
def markT (k i : Int) : ByteArray := bytesOf (markL k i)
theorem lit5 (a b c d : Int) (w : World) : (Instr.buildSlice 140 5 #[(0, (Go.Value.int Go.IntKind.u8 35)), (1, .int .u8 a), (2, .int .u8 b), (3, .int .u8 c), (4, .int .u8 d)]).run Tryd.prog w =
    .ok (.slice (some ⟨w.heap.size, 0, none⟩) 5 5) (w.alloc (.cells [.int .u8 35, .int .u8 a, .int .u8 b, .int .u8 c, .int .u8 d].toArray 5)) := by kernel_rfl
theorem markText (k i : Int) (w : World) : Does Tryd.prog 66 [.int .i64 k, .int .i64 i] w fun v w' => v = .string (markT k i) ∧ Ext w w' := by
  refine D66 ?_
  unfold S66
  simp only [Pure.run (p_conv Tryd.underlying3 Tryd.underlying5), Pure.run (p_shr (show (0 : Int) ≤ 8 by decide))]
  refine r_lit (lit5 _ _ _ _ w) fun w' he _ hb => ?_
  refine r_bytesString (ns := markL k i) sl140.slice Tryd.underlying5 Tryd.underlying9 (by have := hb.at; exact this) rfl ⟨rfl, he⟩
theorem markTexts (k i : Int) (w : World) : Does Tryd.prog 58 [.int .i64 k, .int .i64 i] w fun v w' => v = .string (markT k i) ∧ Ext w w' := by
  refine D58 ?_
  unfold S58
  exact GoN.does pl66 (markText k i w) fun v w' h => h

def strs (l : List ByteArray) : List Value := l.map Value.string
def marksT (k : Int) (n : Nat) : List ByteArray := (List.range n).map fun (i : Nat) => markT k (i : Int)
abbrev RTxt (cs : List Value) (s : ByteArray) : Prop := cs = [.string s]
abbrev Texts (m : Mem) (v : Value) (l : List ByteArray) : Prop := Sl m 1 RTxt v l
theorem strs_len (l : List ByteArray) : (strs l).length = l.length := by simp [strs]
theorem strs_snoc (l : List ByteArray) (k : Nat) (s : ByteArray) (h : l[k]? = some s) : strs (l.take k) ++ [Value.string s] = strs (l.take (k + 1)) := by
  rw [List.take_succ_eq_append_getElem (List.getElem?_eq_some_iff.1 h).1, (List.getElem?_eq_some_iff.1 h).2]
  simp [strs]
theorem strs_flat (l : List ByteArray) : strs l = l.flatMap fun s => [Value.string s] := by
  induction l with
  | nil => rfl
  | cons x l ih => simp [strs] at ih ⊢; exact ih
theorem marks_succ (k : Int) (n : Nat) : marksT k (n + 1) = marksT k n ++ [markT k n] := by simp [marksT, List.range_succ]

/-- FullTexts: the list, and sixteen marks behind it, in a row of their own. -/
theorem sameTexts {m m' : Mem} {a b : Value} {xs : List ByteArray} {w : World} (hm : Sub m w) (hm' : Sub m' w) (ha : Texts m a xs) (hb : Texts m' b xs) (hn : xs.length ≤ 1073741824) :
    Does Tryd.prog 46 [a, b] w (Yes w) := by
  obtain ⟨p, c, rfl, hc⟩ := ha.form
  obtain ⟨p', c', rfl, hc'⟩ := hb.form
  refine D46 ?_
  unfold S46
  simp only [Pure.run (p_len sl26.slice), JoinP.eq, PickP.eq, GuardP.yes, GuardP.undef, GuardP.no (show (true == false) = false from rfl), GuardP.no (show (false == true) = false from rfl), CondP.tt, CondP.ff, add_r, sub_r, mul_r, lss_r, leq_r, gtr_r, geq_r, eql_r, neq_r, eqs_r, nes_r, not_r, nil_r, Bool.not_true, Bool.not_false, if_true, if_false, Bool.false_eq_true, decide_true, decide_false, Nat.zero_add, Bool.and_true, Bool.true_and]
  refine LoopP.of2 (fun r i w' => ∃ k : Nat, k ≤ xs.length ∧ i = .int .i64 k ∧ Ext w w') (fun _ i _ => xs.length - (intOf i).toNat) ⟨0, by omega, rfl, Ext.refl _⟩ ?_
  rintro r i w' ⟨k, hk, rfl, hext⟩
  simp only [Pure.run (p_len sl26.slice), lss_r]
  refine CondP.dec (fun h => ?_) (fun h => ?_)
  · have hk' : k < xs.length := by omega
    obtain ⟨s, hs⟩ : ∃ s, xs[k]? = some s := ⟨xs[k], by simp [hk']⟩
    obtain ⟨bl, ol, cs, rfl, _, _, _, hat, rfl⟩ := ha.get hs
    obtain ⟨bl', ol', cs, rfl, _, _, _, hat', rfl⟩ := hb.get hs
    try simp only [JoinP.eq]
    intro w1 he1
    have hext1 := hext.trans he1
    rw [Pure.runQ (p_idx (e := 9) (sz := 1) sl26.slice size9 (by omega) (by omega))]
    refine q_load1 one9 (hat w1 (hm.ext hext1) 0 _ rfl) ?_
    rw [Pure.runQ (p_idx (e := 9) (sz := 1) sl26.slice size9 (by omega) (by omega))]
    refine q_load1 one9 (hat' w1 (hm'.ext hext1) 0 _ rfl) ?_
    simp only [decide_true, PickQ.eq, GuardQ.yes, GuardQ.undef, GuardQ.no (show (true == false) = false from rfl), GuardQ.no (show (false == true) = false from rfl), eql_q, neq_q, lss_q, add_q, sub_q, eqs_q, nes_q, not_q, JoinP.eq, PickP.eq, GuardP.yes, GuardP.undef, GuardP.no (show (true == false) = false from rfl), GuardP.no (show (false == true) = false from rfl), CondP.tt, CondP.ff, add_r, sub_r, mul_r, lss_r, leq_r, gtr_r, geq_r, eql_r, neq_r, eqs_r, nes_r, not_r, nil_r, Bool.not_true, Bool.not_false, if_true, if_false, Bool.false_eq_true, decide_true, decide_false, Nat.zero_add, Bool.and_true, Bool.true_and]
    refine ⟨⟨k + 1, by omega, succ64 (by omega), hext1⟩, ?_⟩
    rw [succ64 (by omega)]; simp [intOf]; omega
  · exact ⟨rfl, hext⟩
end Go.Proofs.YtmgleeoecdodjaaDoor.Sh
