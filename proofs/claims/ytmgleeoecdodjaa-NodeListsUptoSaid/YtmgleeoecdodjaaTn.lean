/- Finding a message by its name; what a part is called; the message that a part is. Conditions: lengths up to 2^30. -/
import Derived.Test.YtmgleeoecdodjaaTm
set_option linter.unusedVariables false
set_option linter.unusedSimpArgs false
set_option maxRecDepth 10000
namespace Go.V
open Go.RowKit
theorem filter_split {α β : Type} (f : α → Option β) {l : List α} {k : Nat} {a : α} {b : β} (h : l[k]? = some a) (hb : f a = some b) : l.filterMap f = (l.take k).filterMap f ++ (b :: (l.drop (k + 1)).filterMap f) := by
  have h1 : l = l.take k ++ (a :: l.drop (k + 1)) := by
    have := List.getElem?_eq_some_iff.1 h
    conv => lhs; rw [← List.take_append_drop k l]
    rw [List.drop_eq_getElem_cons this.1, this.2]
  conv => lhs; rw [h1]
  rw [List.filterMap_append, List.filterMap_cons, hb]
end Go.V
namespace Go.Proofs.Ytmgleeoecdodjaa.Sh
open Go Go.V Go.RowKit

def zMsg : DMsg := ⟨0, 0, 0, false, ByteArray.empty, 0, ByteArray.empty, []⟩
theorem okZ : OkMsg zMsg := ⟨by simp [zMsg], by simp [zMsg]⟩
def nameIs (name : ByteArray) (y : DMsg) : Bool := decide (y.name = name)
def findMsg (l : List DMsg) (name : ByteArray) : Bool × DMsg :=
  match l.find? (nameIs name) with
  | some y => (true, y)
  | none => (false, zMsg)
theorem bMsg (w : World) : (Instr.build 62 #[]).run Try.prog w = .ok (zMsg.agg (.slice none 0 0)) w := by kernel_rfl
theorem findMsg_split {pre post : List DMsg} {y : DMsg} {name : ByteArray} (h : pre.find? (nameIs name) = none) (hy : y.name = name) : findMsg (pre ++ y :: post) name = (true, y) := by
  unfold findMsg
  rw [List.find?_append, h]
  simp [nameIs, hy]
theorem findMsg_none {l : List DMsg} {name : ByteArray} (h : l.find? (nameIs name) = none) : findMsg l name = (false, zMsg) := by
  unfold findMsg; rw [h]
theorem find_snoc {l : List DMsg} {y : DMsg} {name : ByteArray} (h : l.find? (nameIs name) = none) (hy : y.name ≠ name) : (l ++ [y]).find? (nameIs name) = none := by
  rw [List.find?_append, h]
  simp [nameIs, hy]
/-- The first message of that name, as the document finds it. -/
theorem refFind {m : Mem} {v : Value} {xs : List DMsg} {name : ByteArray} {w : World} (hm : Sub m w) (hv : Msgs m v xs) (hn : xs.length ≤ 1073741824) :
    Does Try.prog 11 [v, .string name] w fun r w' => ∃ u, r = .tuple #[(findMsg xs name).2.agg u, .bool (findMsg xs name).1] ∧ Sigs m u (findMsg xs name).2.sigs ∧ Ext w w' := by
  refine D11 ?_
  unfold S11
  refine r_alloc zero62 fun w1 e1 z1 b1 => ?_
  obtain ⟨p, c, rfl, hc⟩ := hv.form
  simp only [JoinP.eq]
  refine LoopP.of2 (fun _ i w' => ∃ k : Nat, k ≤ xs.length ∧ i = .int .i64 k ∧ (xs.take k).find? (nameIs name) = none ∧ Ext w1 w') (fun _ i _ => xs.length - (intOf i).toNat) ⟨0, Nat.zero_le _, rfl, rfl, Ext.refl _⟩ ?_
  rintro t5 i w2 ⟨k, hk, rfl, hf, hx⟩
  have b2 := b1.ext hx
  simp only [Pure.run (p_len sl29.slice), lss_r]
  refine CondP.dec (fun h => ?_) (fun h => ?_)
  · have hk' : k < xs.length := by omega
    obtain ⟨y, hy⟩ : ∃ y, xs[k]? = some y := ⟨xs[k], by simp [hk']⟩
    obtain ⟨b, o, cs, rfl, _, _, _, hat, ⟨u, rfl, hsg⟩⟩ := hv.get hy
    have hat2 := hat w2 ((hm.ext e1).ext hx)
    have pM : Pure Try.prog (Instr.indexAt 29 (.slice (some ⟨b, o, none⟩) xs.length c) (.int .i64 (k : Int))) (.pointer (some ⟨b, o + k * 8, none⟩)) := by
      have := p_idx (P := Try.prog) (b := b) (o := o) (n := xs.length) (c := c) (k := .i64) (i := (k : Int)) sl29.slice size62 (by omega) (by omega)
      simpa using this
    have hnm : w2.cell? ⟨b, o + k * 8 + 4, none⟩ = some (.string y.name) := hat2 4 _ rfl
    simp only [JoinP.eq, Pure.run pM, Pure.run (p_field fld62_3), ldc one9 hnm, eqs_r]
    refine CondP.dec (fun h => ?_) (fun h => ?_)
    · refine r_loadN agg62 rfl hat2 ?_
      refine r_store size62 (l := y.pre ++ [u]) rfl rfl (one_snoc (one_msgpre y) (one_sl hsg)) b2 (by decide) fun w3 c3 b3 => ?_
      have b3 : Blk w3 w.heap.size (y.pre ++ [u]) 62 := b3
      refine k_loadN agg62 (l := y.pre ++ [u]) rfl b3.at ?_
      have h1 : xs = xs.take k ++ (y :: xs.drop (k + 1)) := by
        have := List.getElem?_eq_some_iff.1 hy
        conv => lhs; rw [← List.take_append_drop k xs]
        rw [List.drop_eq_getElem_cons this.1, this.2]
      have h2 : findMsg xs name = (true, y) := by
        conv => lhs; rw [h1]
        exact findMsg_split hf h
      rw [h2]
      exact ⟨u, rfl, hsg, (e1.trans hx).chg c3 (by omega)⟩
    · simp only [add_r]
      refine ⟨⟨k + 1, by omega, succ64 (by omega), ?_, hx⟩, ?_⟩
      · have := take_snoc (fun y : DMsg => y) hy
        simp only [List.map_id'] at this
        rw [this]; exact find_snoc hf h
      · rw [succ64 (by omega)]; simp [intOf]; omega
  · rw [List.take_of_length_le (by omega)] at hf
    rw [Run.eq (bMsg _), findMsg_none hf]
    refine r_store size62 (l := zMsg.pre ++ [.slice none 0 0]) rfl rfl (all_one rfl) b2 (by decide) fun w3 c3 b3 => ?_
    refine k_loadN agg62 (l := zMsg.pre ++ [.slice none 0 0]) rfl b3.at ?_
    exact ⟨.slice none 0 0, rfl, Sl.nil _ _ _ _ _, (e1.trans hx).chg c3 (by omega)⟩
theorem Own.msgsig {w : World} {lo hi : Nat} {n : PNode} (h : ONode w lo hi n) : ∀ y v tvs, n = .msg y v tvs → OMsg w lo hi y v tvs := by
  rintro y v tvs rfl; exact h
/-- The first message of that name among the parts, copied. -/
theorem nodeFind {l : Value} {ns : List PNode} {xs : List DMsg} {name : ByteArray} {w : World} {lo hi : Nat} (hl : Own w 70 1 l ns.length (ns.map PNode.val)) (ho : ONodes w lo ns hi) (hx : (ns.map PNode.data).filterMap DNode.msg? = xs)
    (hok : ∀ y ∈ xs, OkMsg y) (hn : ns.length ≤ 3221225472) :
    Does Try.prog 12 [l, .string name] w fun r w' => ∃ u tvs, r = .tuple #[(findMsg xs name).2.agg u, .bool (findMsg xs name).1] ∧ Ext w w' ∧ OMsg w' w.heap.size w'.heap.size (findMsg xs name).2 u tvs := by
  refine D12 ?_
  unfold S12
  refine r_alloc zero62 fun w1 e1 z1 b1 => ?_
  have hl1 := hl.ext e1
  obtain ⟨p, c, rfl, hc⟩ := hl.len
  simp only [JoinP.eq, Pure.run (p_len sl34.slice)]
  refine LoopP.of2 (fun _ i w' => ∃ k : Nat, k ≤ ns.length ∧ i = .int .i64 k ∧ (((ns.map PNode.data).take k).filterMap DNode.msg?).find? (nameIs name) = none ∧ Ext w1 w') (fun _ i _ => ns.length - (intOf i).toNat) ⟨0, Nat.zero_le _, rfl, rfl, Ext.refl _⟩ ?_
  rintro t5 i w2 ⟨k, hk, rfl, hf, hx2⟩
  have b2 := b1.ext hx2
  simp only [lss_r]
  refine CondP.dec (fun h => ?_) (fun h => ?_)
  · have hk' : k < ns.length := by omega
    obtain ⟨n, hnk⟩ : ∃ n, ns[k]? = some n := ⟨ns[k], by simp [hk']⟩
    have hdn : (ns.map PNode.data)[k]? = some n.data := by rw [List.getElem?_map, hnk]; rfl
    obtain ⟨a, b, hnode⟩ := ho.get hnk
    have hone := hnode.one
    obtain ⟨g, rfl, hc0⟩ := (hl1.ext hx2).cell1 (g := 0) (k := k) (v := n.val) (by rw [List.getElem?_map, hnk]; rfl)
    have pL : Pure Try.prog (Instr.indexAt 34 (.slice (some ⟨g, 0, none⟩) ns.length c) (.int .i64 (k : Int))) (.pointer (some ⟨g, k, none⟩)) := by
      have := pIdx (b := g) (c := c) sl34.slice size70 hk'
      simpa using this
    obtain ⟨zm, pm, lm, om, vm⟩ := as_msg hone
    have hstep := filter_step DNode.msg? hdn
    simp only [JoinP.eq]
    rw [Pure.run pL, ldc one70 hc0]
    refine r_as pm zero62 size62 rfl lm om fun u3 f3 q3 => ?_
    have b3 := b2.ext f3
    have hx3 := hx2.trans f3
    have fin : ∀ w', Ext w1 w' → (((ns.map PNode.data).take (k + 1)).filterMap DNode.msg?).find? (nameIs name) = none → (∃ k_1 : Nat, k_1 ≤ ns.length ∧ Value.int .i64 (IntKind.i64.wrap ((k : Int) + 1)) = .int .i64 (k_1 : Nat) ∧ (((ns.map PNode.data).take k_1).filterMap DNode.msg?).find? (nameIs name) = none ∧ Ext w1 w') ∧
        ns.length - (intOf (Value.int .i64 (IntKind.i64.wrap ((k : Int) + 1)))).toNat < ns.length - (intOf (.int .i64 (k : Int))).toNat := by
      intro w' hw' hf'
      refine ⟨⟨k + 1, by omega, succ64 (by omega), hf', hw'⟩, ?_⟩
      rw [succ64 (by omega)]; simp [intOf]; omega
    cases n with
    | ver y =>
      have d3 : decide ((PNode.ver y).data.kind = 3) = false := rfl
      simp only [d3, JoinP.eq, PickP.eq, GuardP.yes, GuardP.undef, GuardP.no (show (true == false) = false from rfl), GuardP.no (show (false == true) = false from rfl), CondP.tt, CondP.ff, add_r, sub_r, mul_r, lss_r, leq_r, gtr_r, geq_r, eql_r, neq_r, eqs_r, nes_r, not_r, nil_r, Bool.not_true, Bool.not_false, if_true, if_false, Bool.false_eq_true, decide_true, decide_false, Nat.zero_add, Bool.and_true, Bool.true_and]
      refine fin u3 hx3 ?_
      rw [hstep]; simpa [PNode.data, DNode.msg?] using hf
    | sta y v =>
      have d3 : decide ((PNode.sta y v).data.kind = 3) = false := rfl
      simp only [d3, JoinP.eq, PickP.eq, GuardP.yes, GuardP.undef, GuardP.no (show (true == false) = false from rfl), GuardP.no (show (false == true) = false from rfl), CondP.tt, CondP.ff, add_r, sub_r, mul_r, lss_r, leq_r, gtr_r, geq_r, eql_r, neq_r, eqs_r, nes_r, not_r, nil_r, Bool.not_true, Bool.not_false, if_true, if_false, Bool.false_eq_true, decide_true, decide_false, Nat.zero_add, Bool.and_true, Bool.true_and]
      refine fin u3 hx3 ?_
      rw [hstep]; simpa [PNode.data, DNode.msg?] using hf
    | tab y v =>
      have d3 : decide ((PNode.tab y v).data.kind = 3) = false := rfl
      simp only [d3, JoinP.eq, PickP.eq, GuardP.yes, GuardP.undef, GuardP.no (show (true == false) = false from rfl), GuardP.no (show (false == true) = false from rfl), CondP.tt, CondP.ff, add_r, sub_r, mul_r, lss_r, leq_r, gtr_r, geq_r, eql_r, neq_r, eqs_r, nes_r, not_r, nil_r, Bool.not_true, Bool.not_false, if_true, if_false, Bool.false_eq_true, decide_true, decide_false, Nat.zero_add, Bool.and_true, Bool.true_and]
      refine fin u3 hx3 ?_
      rw [hstep]; simpa [PNode.data, DNode.msg?] using hf
    | msg y v tvs =>
      have d3 : decide ((PNode.msg y v tvs).data.kind = 3) = true := rfl
      obtain rfl := vm y v tvs rfl
      have q3 : Blk u3 w2.heap.size (y.pre ++ [v]) 62 := q3
      simp only [d3, Pure.run (p_field (o := 0) fld62_3), ld1 q3 one9 (o := 0 + 4) rfl, ld1 q3 one9 (o := 4) rfl, eqs_r, JoinP.eq, PickP.eq, GuardP.yes, GuardP.undef, GuardP.no (show (true == false) = false from rfl), GuardP.no (show (false == true) = false from rfl), CondP.tt, CondP.ff, add_r, sub_r, mul_r, lss_r, leq_r, gtr_r, geq_r, eql_r, neq_r, eqs_r, nes_r, not_r, nil_r, Bool.not_true, Bool.not_false, if_true, if_false, Bool.false_eq_true, decide_true, decide_false, Nat.zero_add, Bool.and_true, Bool.true_and]
      have hsplit := filter_split DNode.msg? hdn (b := y) rfl
      rw [hx] at hsplit
      refine CondP.dec (fun h => ?_) (fun h => ?_)
      · rw [ldN q3 agg62 (o := 0) rfl]
        have hno := OMsg.ext (OMsg.ext (OMsg.ext hnode e1) hx2) f3
        refine GoN.does pl21 (message (x := y) (Sub.self u3) (OMsg.sigs hno) (hok y (by rw [hsplit]; simp))) ?_
        rintro r u4 ⟨v', tvs', rfl, e4, ho4⟩
        obtain ⟨o1, _⟩ := ho4.own.one
        refine r_store size62 (l := y.pre ++ [v']) rfl rfl (one_snoc (one_msgpre y) o1) (b3.ext e4) (by decide) fun w5 c5 b5 => ?_
        have b5 : Blk w5 w.heap.size (y.pre ++ [v']) 62 := b5
        refine k_loadN agg62 (l := y.pre ++ [v']) rfl b5.at ?_
        have h2 : findMsg xs name = (true, y) := by rw [hsplit]; exact findMsg_split hf h
        rw [h2]
        have hwx : Ext w u4 := (e1.trans hx3).trans e4
        refine ⟨v', tvs', rfl, hwx.chg c5 (Nat.le_refl _), ?_⟩
        have hkp : Keep [62] u4 w5 := .chg c5 (b3.ext e4) _ (by simp)
        have := OMsg.keep ho4 hkp (by decide) (by decide)
        exact ⟨this.len, this.own, this.texts, this.inc.mono (e1.trans hx3).size (Nat.le_of_eq c5.size.symm)⟩
      · refine fin u3 hx3 ?_
        rw [hstep]
        exact find_snoc hf h
  · rw [List.take_of_length_le (by simp; omega), hx] at hf
    rw [Run.eq (bMsg _), findMsg_none hf]
    refine r_store size62 (l := zMsg.pre ++ [.slice none 0 0]) rfl rfl (all_one rfl) b2 (by decide) fun w3 c3 b3 => ?_
    refine k_loadN agg62 (l := zMsg.pre ++ [.slice none 0 0]) rfl b3.at ?_
    have hwx : Ext w w3 := (e1.trans hx2).chg c3 (by omega)
    exact ⟨.slice none 0 0, [], rfl, hwx, ⟨rfl, Own.nil _ _ _, fun j s tv h => by simp [zMsg] at h, Inc.one hwx.size fun g hg => by simp [Value.ownBlock] at hg⟩⟩
def DNode.kname : DNode → ByteArray
  | .ver _ => ⟨#[118, 101, 114, 115, 105, 111, 110]⟩
  | .sta _ => ⟨#[115, 116, 97, 116, 105, 111, 110, 115]⟩
  | .msg _ => ⟨#[109, 101, 115, 115, 97, 103, 101]⟩
  | .tab _ => ⟨#[116, 97, 98, 108, 101]⟩
theorem bRank (a : Int) (b : ByteArray) (w : World) : (Instr.build 111 #[(0, .int .i64 a), (1, .string b)]).run Try.prog w = .ok (.agg #[.int .i64 a, .string b]) w := by kernel_rfl
theorem fRank (a : Int) (b : ByteArray) (w : World) : (Instr.field 111 (.agg #[.int .i64 a, .string b]) 1).run Try.prog w = .ok (.string b) w := by kernel_rfl
theorem kind1 {n : PNode} {w : World} (h : n.one) : Does Try.prog 48 [n.val] w fun r w' => r = .agg #[.int .i64 n.data.kind, .string n.data.kname] ∧ Ext w w' := by
  obtain ⟨za, pa, _, _, _⟩ := as_ver h
  obtain ⟨zs, ps, _, _, _⟩ := as_sta h
  obtain ⟨zm, pm, _, _, _⟩ := as_msg h
  obtain ⟨zt, pt, _, _, _⟩ := as_tab h
  refine D48 ?_
  unfold S48
  refine r_alloc zero111 fun w1 e1 z1 b1 => ?_
  have fin : ∀ (a : Int) (b : ByteArray) (K : Value → World → Prop), (∀ w', Ext w w' → K (.agg #[.int .i64 a, .string b]) w') →
      RunU Try.prog (Instr.storeAt 111 (.pointer (some ⟨w.heap.size, 0, none⟩)) (.agg #[.int .i64 a, .string b])) w1 fun w6 => resK Try.prog (.pointer (some ⟨w.heap.size, 0, none⟩)) 111 w6 fun r0 => K r0 w6 := by
    intro a b K hK
    refine r_store size111 (l := [.int .i64 a, .string b]) rfl rfl (all_one rfl) b1 (by decide) fun w2 c2 b2 => ?_
    exact k_loadN agg111 (l := [.int .i64 a, .string b]) rfl b2.at (hK _ (e1.chg c2 (Nat.le_refl _)))
  simp only [JoinP.eq, Pure.run pa, Pure.run ps, Pure.run pm, Pure.run pt, Pure.run p_ext_0, Pure.run p_ext_1]
  cases n with
  | ver y =>
    simp only [show decide ((PNode.ver y).data.kind = 1) = true from rfl, JoinP.eq, PickP.eq, GuardP.yes, GuardP.undef, GuardP.no (show (true == false) = false from rfl), GuardP.no (show (false == true) = false from rfl), CondP.tt, CondP.ff, add_r, sub_r, mul_r, lss_r, leq_r, gtr_r, geq_r, eql_r, neq_r, eqs_r, nes_r, not_r, nil_r, Bool.not_true, Bool.not_false, if_true, if_false, Bool.false_eq_true, decide_true, decide_false, Nat.zero_add, Bool.and_true, Bool.true_and]
    rw [Run.eq (bRank _ _ _)]
    exact fin _ _ (fun r w' => r = _ ∧ Ext w w') fun w' e => ⟨rfl, e⟩
  | sta y v =>
    simp only [show decide ((PNode.sta y v).data.kind = 1) = false from rfl, show decide ((PNode.sta y v).data.kind = 2) = true from rfl, JoinP.eq, PickP.eq, GuardP.yes, GuardP.undef, GuardP.no (show (true == false) = false from rfl), GuardP.no (show (false == true) = false from rfl), CondP.tt, CondP.ff, add_r, sub_r, mul_r, lss_r, leq_r, gtr_r, geq_r, eql_r, neq_r, eqs_r, nes_r, not_r, nil_r, Bool.not_true, Bool.not_false, if_true, if_false, Bool.false_eq_true, decide_true, decide_false, Nat.zero_add, Bool.and_true, Bool.true_and]
    rw [Run.eq (bRank _ _ _)]
    exact fin _ _ (fun r w' => r = _ ∧ Ext w w') fun w' e => ⟨rfl, e⟩
  | msg y v tvs =>
    simp only [show decide ((PNode.msg y v tvs).data.kind = 1) = false from rfl, show decide ((PNode.msg y v tvs).data.kind = 2) = false from rfl, show decide ((PNode.msg y v tvs).data.kind = 3) = true from rfl, JoinP.eq, PickP.eq, GuardP.yes, GuardP.undef, GuardP.no (show (true == false) = false from rfl), GuardP.no (show (false == true) = false from rfl), CondP.tt, CondP.ff, add_r, sub_r, mul_r, lss_r, leq_r, gtr_r, geq_r, eql_r, neq_r, eqs_r, nes_r, not_r, nil_r, Bool.not_true, Bool.not_false, if_true, if_false, Bool.false_eq_true, decide_true, decide_false, Nat.zero_add, Bool.and_true, Bool.true_and]
    rw [Run.eq (bRank _ _ _)]
    exact fin _ _ (fun r w' => r = _ ∧ Ext w w') fun w' e => ⟨rfl, e⟩
  | tab y v =>
    simp only [show decide ((PNode.tab y v).data.kind = 1) = false from rfl, show decide ((PNode.tab y v).data.kind = 2) = false from rfl, show decide ((PNode.tab y v).data.kind = 3) = false from rfl, show decide ((PNode.tab y v).data.kind = 4) = true from rfl, JoinP.eq, PickP.eq, GuardP.yes, GuardP.undef, GuardP.no (show (true == false) = false from rfl), GuardP.no (show (false == true) = false from rfl), CondP.tt, CondP.ff, add_r, sub_r, mul_r, lss_r, leq_r, gtr_r, geq_r, eql_r, neq_r, eqs_r, nes_r, not_r, nil_r, Bool.not_true, Bool.not_false, if_true, if_false, Bool.false_eq_true, decide_true, decide_false, Nat.zero_add, Bool.and_true, Bool.true_and]
    rw [Run.eq (bRank _ _ _)]
    exact fin _ _ (fun r w' => r = _ ∧ Ext w w') fun w' e => ⟨rfl, e⟩
theorem kindName {n : PNode} {w : World} (h : n.one) : Does Try.prog 15 [n.val] w fun r w' => r = .string n.data.kname ∧ Ext w w' := by
  refine D15 ?_
  unfold S15
  refine GoN.does pl48 (kind1 h) ?_
  rintro _ w1 ⟨rfl, e1⟩
  rw [Run.eq (fRank _ _ _)]
  exact ⟨rfl, e1⟩
/-- The message that a part is, copied. -/
theorem nodeMessage {y : DMsg} {v : Value} {tvs : List Value} {w : World} {lo hi : Nat} (ho : OMsg w lo hi y v tvs) (hx : OkMsg y) :
    Does Try.prog 16 [.iface 62 (y.agg v)] w fun r w' => ∃ u tvs', r = y.agg u ∧ Ext w w' ∧ OMsg w' w.heap.size w'.heap.size y u tvs' := by
  refine D16 ?_
  unfold S16
  refine r_alloc zero62 fun w1 e1 z1 b1 => ?_
  rw [Pure.run (p_assert_yes1 unMsg)]
  refine GoN.does pl21 (message (x := y) (Sub.self w1) (OMsg.sigs (OMsg.ext ho e1)) hx) ?_
  rintro r u4 ⟨v', tvs', rfl, e4, ho4⟩
  obtain ⟨o1, _⟩ := ho4.own.one
  refine r_store size62 (l := y.pre ++ [v']) rfl rfl (one_snoc (one_msgpre y) o1) (b1.ext e4) (by decide) fun w5 c5 b5 => ?_
  have b5 : Blk w5 w.heap.size (y.pre ++ [v']) 62 := b5
  refine k_loadN agg62 (l := y.pre ++ [v']) rfl b5.at ?_
  refine ⟨v', tvs', rfl, (e1.trans e4).chg c5 (Nat.le_refl _), ?_⟩
  have hkp : Keep [62] u4 w5 := .chg c5 (b1.ext e4) _ (by simp)
  have := OMsg.keep ho4 hkp (by decide) (by decide)
  exact ⟨this.len, this.own, this.texts, this.inc.mono e1.size (Nat.le_of_eq c5.size.symm)⟩
end Go.Proofs.Ytmgleeoecdodjaa.Sh
