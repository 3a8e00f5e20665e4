/- All lists of parts, put into the book. Conditions: lengths up to 2^30. -/
import Derived.Test.YtmgleeoecdodjaaTh
set_option linter.unusedVariables false
set_option linter.unusedSimpArgs false
set_option maxRecDepth 10000
namespace Go.Proofs.Ytmgleeoecdodjaa.Sh
open Go Go.V Go.RowKit

theorem flat_take {α β : Type} (f : α → List β) {l : List α} {k : Nat} {a : α} (h : l[k]? = some a) : (l.take (k + 1)).flatMap f = (l.take k).flatMap f ++ f a := by
  rw [List.take_succ_eq_append_getElem (List.getElem?_eq_some_iff.1 h).1, (List.getElem?_eq_some_iff.1 h).2]
  simp
theorem flat_le {α β : Type} (f : α → List β) (l : List α) (k : Nat) : ((l.take k).flatMap f).length ≤ (l.flatMap f).length := by
  conv => rhs; rw [← List.take_append_drop k l, List.flatMap_append, List.length_append]
  exact Nat.le_add_right _ _
theorem book {w : World} {kb lo hi : Nat} {ts rs ss : List Value} {l : Value} {ns : List PNode} (h : BookAt w kb ts rs ss) (hl : Own w 70 1 l ns.length (ns.map PNode.val)) (ho : ONodes w lo ns hi)
    (hok : ∀ x v tvs, PNode.msg x v tvs ∈ ns → OkMsg x) (hn : ns.length ≤ 3221225475) (ht : ts.length + (ns.flatMap PNode.texts).length ≤ 3221225475) (hr : rs.length + (ns.flatMap PNode.rows).length ≤ 3221225475) (hs : ss.length + (ns.flatMap PNode.sigs).length ≤ 3221225475) :
    Does Try.prog 9 [.pointer (some ⟨kb, 0, none⟩), l] w fun _ w' => Booked w kb (ts ++ ns.flatMap PNode.texts) (rs ++ ns.flatMap PNode.rows) (ss ++ ns.flatMap PNode.sigs) w' := by
  refine D9 ?_
  unfold S9
  simp only [JoinP.eq]
  refine LoopP.of1 (fun i w' => ∃ k : Nat, k ≤ ns.length ∧ i = .int .i64 k ∧ Booked w kb (ts ++ (ns.take k).flatMap PNode.texts) (rs ++ (ns.take k).flatMap PNode.rows) (ss ++ (ns.take k).flatMap PNode.sigs) w') (fun i _ => ns.length - (intOf i).toNat)
    ⟨0, Nat.zero_le _, rfl, by simpa using Booked.refl h⟩ ?_
  rintro i u0 ⟨k, hk1, rfl, hb⟩
  obtain ⟨p, c, rfl, hpc⟩ := hl.len
  simp only [Pure.run (p_len sl34.slice), lss_r]
  refine CondP.dec (fun h => ?_) (fun h => ?_)
  · have hk' : k < ns.length := by omega
    obtain ⟨n, hn⟩ : ∃ n, ns[k]? = some n := ⟨ns[k], by simp [hk']⟩
    obtain ⟨a, b, hnode⟩ := ho.get hn
    have hone := hnode.one
    obtain ⟨g, c2, hg, _, hat⟩ := (hl.keepT hb.keep (by decide)).at (by omega)
    injection hg with hg1 hg2 hg3
    subst hg1; subst hg3
    have hc0 : u0.cell? ⟨g, k, none⟩ = some n.val := by
      have := hat k n.val (by rw [List.getElem?_map, hn]; rfl)
      simpa using this
    have pL : Pure Try.prog (Instr.indexAt 34 (.slice (some ⟨g, 0, none⟩) ns.length c) (.int .i64 (k : Int))) (.pointer (some ⟨g, k, none⟩)) := by
      have := p_idx (P := Try.prog) (b := g) (o := 0) (n := ns.length) (c := c) (k := .i64) (i := (k : Int)) sl34.slice size70 (by omega) (by omega)
      simpa using this
    obtain ⟨zs, ps, ls, os, vs⟩ := as_sta hone
    obtain ⟨zm, pm, lm, om, vm⟩ := as_msg hone
    obtain ⟨zt, pt, lt, ot, vt⟩ := as_tab hone
    simp only [JoinP.eq]
    rw [Pure.run pL, ldc one70 hc0]
    refine r_as ps zero28 size28 rfl ls os fun u2 f2 q2 => ?_
    rw [Pure.run pL, ldc one70 (cell_ext hc0 f2)]
    refine r_as pm zero62 size62 rfl lm om fun u3 f3 q3 => ?_
    have f03 := f2.trans f3
    rw [Pure.run pL, ldc one70 (cell_ext hc0 f03)]
    refine r_as pt zero79 size79 rfl lt ot fun u4 f4 q4 => ?_
    have f04 := f03.trans f4
    have q2 := q2.ext (f3.trans f4)
    have q3 := q3.ext f4
    have hb4 := hb.ext f04
    have t1 := flat_take PNode.texts hn
    have t2 := flat_take PNode.rows hn
    have t3 := flat_take PNode.sigs hn
    have s1 := flat_le PNode.texts ns (k + 1)
    have s2 := flat_le PNode.rows ns (k + 1)
    have s3 := flat_le PNode.sigs ns (k + 1)
    have hnode4 := hnode.keep hb4.keep (by decide) (by decide) (by decide)
    have fin : ∀ w', Booked w kb (ts ++ (ns.take (k + 1)).flatMap PNode.texts) (rs ++ (ns.take (k + 1)).flatMap PNode.rows) (ss ++ (ns.take (k + 1)).flatMap PNode.sigs) w' →
        (∃ k_1, k_1 ≤ ns.length ∧ Value.int .i64 (IntKind.i64.wrap ((k : Int) + 1)) = .int .i64 (k_1 : Nat) ∧ Booked w kb (ts ++ (ns.take k_1).flatMap PNode.texts) (rs ++ (ns.take k_1).flatMap PNode.rows) (ss ++ (ns.take k_1).flatMap PNode.sigs) w') ∧
        ns.length - (intOf (Value.int .i64 (IntKind.i64.wrap ((k : Int) + 1)))).toNat < ns.length - (intOf (.int .i64 (k : Int))).toNat := by
      intro w' hw'
      refine ⟨⟨k + 1, by omega, succ64 (by omega), hw'⟩, ?_⟩
      rw [succ64 (by omega)]; simp [intOf]; omega
    rw [t1] at s1; rw [t2] at s2; rw [t3] at s3
    rw [t1, t2, t3] at fin
    simp only [List.length_append] at s1 s2 s3
    cases n with
    | ver y =>
      have d2 : decide ((PNode.ver y).data.kind = 2) = false := rfl
      have d3 : decide ((PNode.ver y).data.kind = 3) = false := rfl
      have d4 : decide ((PNode.ver y).data.kind = 4) = false := rfl
      simp only [d2, d3, d4, JoinP.eq, PickP.eq, GuardP.yes, GuardP.undef, GuardP.no (show (true == false) = false from rfl), GuardP.no (show (false == true) = false from rfl), CondP.tt, CondP.ff, add_r, sub_r, mul_r, lss_r, leq_r, gtr_r, geq_r, eql_r, neq_r, eqs_r, nes_r, not_r, nil_r, Bool.not_true, Bool.not_false, if_true, if_false, Bool.false_eq_true, decide_true, decide_false, Nat.zero_add, Bool.and_true, Bool.true_and]
      refine fin u4 ?_
      simpa [PNode.texts, PNode.rows, PNode.sigs] using hb4
    | sta y v =>
      have d2 : decide ((PNode.sta y v).data.kind = 2) = true := rfl
      have d3 : decide ((PNode.sta y v).data.kind = 3) = false := rfl
      have d4 : decide ((PNode.sta y v).data.kind = 4) = false := rfl
      obtain rfl := vs y v rfl
      obtain ⟨o1, o2⟩ := Own.one hnode4.1
      have q2 : Blk u4 u0.heap.size (y.pre ++ [v]) 28 := q2
      simp only [PNode.texts, List.length_cons, List.length_nil] at s1
      simp only [d2, d3, d4, JoinP.eq, PickP.eq, GuardP.yes, GuardP.undef, GuardP.no (show (true == false) = false from rfl), GuardP.no (show (false == true) = false from rfl), CondP.tt, CondP.ff, add_r, sub_r, mul_r, lss_r, leq_r, gtr_r, geq_r, eql_r, neq_r, eqs_r, nes_r, not_r, nil_r, Bool.not_true, Bool.not_false, if_true, if_false, Bool.false_eq_true, decide_true, decide_false, Nat.zero_add, Bool.and_true, Bool.true_and]
      rw [ldN q2 agg28 (o := 0) rfl]
      refine GoN.does pl29 (bookStations (x := y) hb4.book o1 o2 (by simp only [List.length_append]; omega)) ?_
      intro _ u5 h5
      try simp only [JoinP.eq, PickP.eq, GuardP.yes, GuardP.undef, GuardP.no (show (true == false) = false from rfl), GuardP.no (show (false == true) = false from rfl), CondP.tt, CondP.ff, add_r, sub_r, mul_r, lss_r, leq_r, gtr_r, geq_r, eql_r, neq_r, eqs_r, nes_r, not_r, nil_r, Bool.not_true, Bool.not_false, if_true, if_false, Bool.false_eq_true, decide_true, decide_false, Nat.zero_add, Bool.and_true, Bool.true_and]
      refine fin u5 ?_
      simpa [PNode.texts, PNode.rows, PNode.sigs] using h5.after hb4.below hb4.keep
    | msg y v tvs =>
      have d2 : decide ((PNode.msg y v tvs).data.kind = 2) = false := rfl
      have d3 : decide ((PNode.msg y v tvs).data.kind = 3) = true := rfl
      have d4 : decide ((PNode.msg y v tvs).data.kind = 4) = false := rfl
      obtain rfl := vm y v tvs rfl
      have q3 : Blk u4 u2.heap.size (y.pre ++ [v]) 62 := q3
      have hlen := OMsg.len hnode4
      simp only [PNode.texts, PNode.sigs, List.length_cons, List.length_nil] at s1 s3
      simp only [d2, d3, d4, JoinP.eq, PickP.eq, GuardP.yes, GuardP.undef, GuardP.no (show (true == false) = false from rfl), GuardP.no (show (false == true) = false from rfl), CondP.tt, CondP.ff, add_r, sub_r, mul_r, lss_r, leq_r, gtr_r, geq_r, eql_r, neq_r, eqs_r, nes_r, not_r, nil_r, Bool.not_true, Bool.not_false, if_true, if_false, Bool.false_eq_true, decide_true, decide_false, Nat.zero_add, Bool.and_true, Bool.true_and]
      rw [ldN q3 agg62 (o := 0) rfl]
      refine GoN.does pl14 (bookMessage (x := y) hb4.book hnode4 (hok y v tvs (List.mem_of_getElem? hn)) (by simp only [List.length_append]; omega) (by simp only [List.length_append]; omega)) ?_
      intro _ u5 h5
      try simp only [JoinP.eq, PickP.eq, GuardP.yes, GuardP.undef, GuardP.no (show (true == false) = false from rfl), GuardP.no (show (false == true) = false from rfl), CondP.tt, CondP.ff, add_r, sub_r, mul_r, lss_r, leq_r, gtr_r, geq_r, eql_r, neq_r, eqs_r, nes_r, not_r, nil_r, Bool.not_true, Bool.not_false, if_true, if_false, Bool.false_eq_true, decide_true, decide_false, Nat.zero_add, Bool.and_true, Bool.true_and]
      refine fin u5 ?_
      simpa [PNode.texts, PNode.rows, PNode.sigs] using h5.after hb4.below hb4.keep
    | tab y v =>
      have d2 : decide ((PNode.tab y v).data.kind = 2) = false := rfl
      have d3 : decide ((PNode.tab y v).data.kind = 3) = false := rfl
      have d4 : decide ((PNode.tab y v).data.kind = 4) = true := rfl
      obtain rfl := vt y v rfl
      obtain ⟨o1, o2⟩ := Own.one hnode4.1
      have q4 : Blk u4 u3.heap.size (y.pre ++ [v]) 79 := q4
      simp only [PNode.rows, List.length_cons, List.length_nil] at s2
      simp only [d2, d3, d4, JoinP.eq, PickP.eq, GuardP.yes, GuardP.undef, GuardP.no (show (true == false) = false from rfl), GuardP.no (show (false == true) = false from rfl), CondP.tt, CondP.ff, add_r, sub_r, mul_r, lss_r, leq_r, gtr_r, geq_r, eql_r, neq_r, eqs_r, nes_r, not_r, nil_r, Bool.not_true, Bool.not_false, if_true, if_false, Bool.false_eq_true, decide_true, decide_false, Nat.zero_add, Bool.and_true, Bool.true_and]
      rw [ldN q4 agg79 (o := 0) rfl]
      refine GoN.does pl30 (bookTable (x := y) hb4.book o1 o2 (by simp only [List.length_append]; omega)) ?_
      intro _ u5 h5
      try simp only [JoinP.eq, PickP.eq, GuardP.yes, GuardP.undef, GuardP.no (show (true == false) = false from rfl), GuardP.no (show (false == true) = false from rfl), CondP.tt, CondP.ff, add_r, sub_r, mul_r, lss_r, leq_r, gtr_r, geq_r, eql_r, neq_r, eqs_r, nes_r, not_r, nil_r, Bool.not_true, Bool.not_false, if_true, if_false, Bool.false_eq_true, decide_true, decide_false, Nat.zero_add, Bool.and_true, Bool.true_and]
      refine fin u5 ?_
      simpa [PNode.texts, PNode.rows, PNode.sigs] using h5.after hb4.below hb4.keep
  · have : ns.take k = ns := List.take_of_length_le (by omega)
    rw [this] at hb
    exact hb
end Go.Proofs.Ytmgleeoecdodjaa.Sh
