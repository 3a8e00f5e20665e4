/- What kind a part is, and the parts told from a database. Conditions: lengths up to 2^30. -/
import Derived.Test.YtmgleeoecdodjaaDoorTd
import Derived.Test.YtmgleeoecdodjaaDoorShE
set_option linter.unusedVariables false
set_option linter.unusedSimpArgs false
set_option maxRecDepth 10000
namespace Go.V
open Go.RowKit
variable {P : Program}
theorem p_assert_yes {t xT : TypeId} {v : Value} {fs : Array Field} (hu : P.underlying t = some (.struct fs)) : Pure P (Instr.typeAssert (.iface t v) xT t true) (.tuple #[v, .bool true]) := fun w => by
  simp [Instr.typeAssert, Sem.run_bind, run_underlying hu, Result.andThen, pure, Sem.run]
theorem p_assert_yes1 {t xT : TypeId} {v : Value} {fs : Array Field} (hu : P.underlying t = some (.struct fs)) : Pure P (Instr.typeAssert (.iface t v) xT t false) v := fun w => by
  simp [Instr.typeAssert, Sem.run_bind, run_underlying hu, Result.andThen, pure, Sem.run]
theorem p_assert_no {t t' xT : TypeId} {v : Value} {fs : Array Field} {l : List Value} (hu : P.underlying t = some (.struct fs)) (hne : t' ≠ t) (hz : zeroOf P t = some l) : ∃ z, z.cells.toList = l ∧ Pure P (Instr.typeAssert (.iface t' v) xT t true) (.tuple #[z, .bool false]) := by
  unfold zeroOf at hz
  obtain ⟨z, hv, hl⟩ := Option.map_eq_some_iff.1 hz
  obtain ⟨i, hi, hz⟩ := Option.bind_eq_some_iff.1 hv
  refine ⟨z, hl, fun w => ?_⟩
  simp [Instr.typeAssert, Sem.run_bind, run_underlying hu, Result.andThen, pure, Sem.run, hne, zeroValue, typeInfo, program, hi, hz]
theorem p_ext_0 {a b : Value} : Pure P (Instr.extract (.tuple #[a, b]) 0) a := p_ext0 (l := [a, b]) rfl
theorem p_ext_1 {a b : Value} : Pure P (Instr.extract (.tuple #[a, b]) 1) b := p_ext0 (l := [a, b]) rfl
theorem GoN.meth {t f : Nat} {nm : String} {v : Value} {w : World} {K R : Value → World → Prop} (hc : (callMethod (.iface t v) nm #[]).run P w = .ok (.enter f #[v]) w) (hd : Does P f [v] w R) (hk : ∀ v w', R v w' → K v w') : GoN P (callMethod (.iface t v) nm #[]) w K := by
  refine ⟨?_⟩
  rw [hc]
  exact (hd.mono hk)
theorem filter_step {α β : Type} (f : α → Option β) {l : List α} {k : Nat} {a : α} (h : l[k]? = some a) : (l.take (k + 1)).filterMap f = (l.take k).filterMap f ++ (f a).toList := by
  rw [List.take_succ_eq_append_getElem (List.getElem?_eq_some_iff.1 h).1, (List.getElem?_eq_some_iff.1 h).2, List.filterMap_append]
  cases hf : f a <;> simp [hf]
theorem filter_get {α β : Type} (f : α → Option β) {l : List α} {k : Nat} {a : α} {b : β} (h : l[k]? = some a) (hb : f a = some b) : (l.filterMap f)[((l.take k).filterMap f).length]? = some b := by
  have h1 : l = l.take k ++ (a :: l.drop (k + 1)) := by
    have := List.getElem?_eq_some_iff.1 h
    conv => lhs; rw [← List.take_append_drop k l]
    rw [List.drop_eq_getElem_cons this.1, this.2]
  have h2 : l.filterMap f = (l.take k).filterMap f ++ (b :: (l.drop (k + 1)).filterMap f) := by
    conv => lhs; rw [h1]
    rw [List.filterMap_append, List.filterMap_cons, hb]
  rw [h2, List.getElem?_append_right (Nat.le_refl _)]
  simp
end Go.V
namespace Go.Proofs.YtmgleeoecdodjaaDoor.Sh
open Go Go.V Go.RowKit

theorem mWhVer (v : Value) (w : World) : (callMethod (.iface 25 v) "Where" #[]).run Tryd.prog w = .ok (.enter 96 #[v]) w := by kernel_rfl
theorem mWhMsg (v : Value) (w : World) : (callMethod (.iface 77 v) "Where" #[]).run Tryd.prog w = .ok (.enter 98 #[v]) w := by kernel_rfl
theorem mWhTab (v : Value) (w : World) : (callMethod (.iface 81 v) "Where" #[]).run Tryd.prog w = .ok (.enter 99 #[v]) w := by kernel_rfl
theorem whVer (x : DVer) (w : World) : Does Tryd.prog 96 [x.agg] w fun v w' => v = .agg #[.int .i64 x.line, .int .i64 x.col] ∧ Ext w w' := by
  refine D96 ?_
  unfold S96
  refine r_box fun w1 e1 z1 b1 => ?_
  refine r_alloc zero23 fun w2 e2 z2 b2 => ?_
  have b1 : Blk w2 w.heap.size x.cells 25 := b1.ext e2
  rw [Pure.run (p_field (o := 0) fld25_0), ldN b1 agg23 (o := 0 + 0) rfl]
  refine r_store size23 rfl rfl (fun u hu => by simp [DVer.cells, Value.cells] at hu; rcases hu with rfl | rfl <;> rfl) b2 (by decide) fun w3 c3 b3 => ?_
  exact k_loadN agg23 (l := [.int .i64 x.line, .int .i64 x.col]) rfl b3.at ⟨rfl, (e1.trans e2).chg c3 (by omega)⟩
theorem whMsg (x : DMsg) (s : Value) (w : World) : Does Tryd.prog 98 [x.agg s] w fun v w' => v = .agg #[.int .i64 x.line, .int .i64 x.col] ∧ Ext w w' := by
  refine D98 ?_
  unfold S98
  refine r_box fun w1 e1 z1 b1 => ?_
  refine r_alloc zero23 fun w2 e2 z2 b2 => ?_
  have b1 : Blk w2 w.heap.size (x.pre ++ [s]) 77 := b1.ext e2
  rw [Pure.run (p_field (o := 0) fld77_0), ldN b1 agg23 (o := 0 + 0) rfl]
  refine r_store size23 rfl rfl (fun u hu => by simp [DMsg.pre, Value.cells] at hu; rcases hu with rfl | rfl <;> rfl) b2 (by decide) fun w3 c3 b3 => ?_
  exact k_loadN agg23 (l := [.int .i64 x.line, .int .i64 x.col]) rfl b3.at ⟨rfl, (e1.trans e2).chg c3 (by omega)⟩
theorem whTab (x : DTab) (s : Value) (w : World) : Does Tryd.prog 99 [x.agg s] w fun v w' => v = .agg #[.int .i64 x.line, .int .i64 x.col] ∧ Ext w w' := by
  refine D99 ?_
  unfold S99
  refine r_box fun w1 e1 z1 b1 => ?_
  refine r_alloc zero23 fun w2 e2 z2 b2 => ?_
  have b1 : Blk w2 w.heap.size (x.pre ++ [s]) 81 := b1.ext e2
  rw [Pure.run (p_field (o := 0) fld81_0), ldN b1 agg23 (o := 0 + 0) rfl]
  refine r_store size23 rfl rfl (fun u hu => by simp [DTab.pre, Value.cells] at hu; rcases hu with rfl | rfl <;> rfl) b2 (by decide) fun w3 c3 b3 => ?_
  exact k_loadN agg23 (l := [.int .i64 x.line, .int .i64 x.col]) rfl b3.at ⟨rfl, (e1.trans e2).chg c3 (by omega)⟩

def DNode.kind : DNode → Int
  | .ver _ => 1
  | .sta _ => 2
  | .msg _ => 3
  | .tab _ => 4
def DNode.msg? : DNode → Option DMsg
  | .msg x => some x
  | _ => none
def DNode.tab? : DNode → Option DTab
  | .tab x => some x
  | _ => none
theorem nodes_msgs (x : DDb) : x.nodes.filterMap DNode.msg? = x.msgs := by
  have h1 : ∀ l : List DMsg, (l.map DNode.msg).filterMap DNode.msg? = l := fun l => by induction l <;> simp_all [DNode.msg?]
  have h2 : ∀ l : List DTab, (l.map DNode.tab).filterMap DNode.msg? = [] := fun l => by induction l <;> simp_all [DNode.msg?]
  unfold DDb.nodes
  split <;> simp only [List.filterMap_append, List.filterMap_cons, List.filterMap_nil, h1, h2, DNode.msg?, List.nil_append, List.append_nil]
theorem nodes_tabs (x : DDb) : x.nodes.filterMap DNode.tab? = x.tabs := by
  have h1 : ∀ l : List DMsg, (l.map DNode.msg).filterMap DNode.tab? = [] := fun l => by induction l <;> simp_all [DNode.tab?]
  have h2 : ∀ l : List DTab, (l.map DNode.tab).filterMap DNode.tab? = l := fun l => by induction l <;> simp_all [DNode.tab?]
  unfold DDb.nodes
  split <;> simp only [List.filterMap_append, List.filterMap_cons, List.filterMap_nil, h1, h2, DNode.tab?, List.nil_append, List.append_nil]
theorem nodes_len (x : DDb) : x.nodes.length ≤ 2 + x.msgs.length + x.tabs.length := by
  unfold DDb.nodes
  split <;> simp <;> omega
theorem nodes_ver {x : DDb} {v : DVer} (h : DNode.ver v ∈ x.nodes) : v = x.ver := by
  unfold DDb.nodes at h
  split at h <;> simp at h
  exact h
theorem nodes_sta {x : DDb} {v : DSta} (h : DNode.sta v ∈ x.nodes) : v = x.sta := by
  unfold DDb.nodes at h
  split at h <;> simp at h <;> exact h
def kindVals (l : List DNode) : List Value := l.map fun n => Value.int .i64 n.kind
/-- What Kinds has made so far. -/
structure Knd (w : World) (dc : List Value) (ds : List DNode) (l : Value) (w' : World) : Prop where
  own : Own w' 3 1 l ds.length (kindVals ds)
  low : ∀ g, l.ownBlock = some g → w.heap.size ≤ g
  ext : Ext w w'
  db : Blk w' w.heap.size dc 32
theorem Knd.push {w w1 : World} {dc : List Value} {ds : List DNode} {l : Value} {n : DNode} {i : Int} {K : Value → World → Prop} (h : Knd w dc ds l w1) (hi : i = n.kind) (hlen : ds.length ≤ 3221225475)
    (k : ∀ l' w3, Knd w dc (ds ++ [n]) l' w3 → K l' w3) :
    Run Tryd.prog (Instr.buildSlice 33 1 #[(0, .int .i64 i)]) w1 fun y w3 => Run Tryd.prog (Builtin.append_ #[33, 33] 33 #[l, y]) w3 K := by
  subst hi
  refine r_append1 sl33 h.own rfl (by simp [Value.cells, Value.oneCell']) (by unfold maxLen; omega) (by omega) fun l' w3 hown hg => ?_
  have hB := h.ext.size
  refine k l' w3 ⟨?_, hg.low hB h.low, Below.trans h.ext (hg.below hB h.low), (Keep.grow hg h.own [3] (by simp)).blk _ _ _ (by decide) h.db⟩
  have : kindVals (ds ++ [n]) = kindVals ds ++ (Value.int .i64 n.kind).cells.toList := by simp [kindVals, Value.cells]
  rw [this]; simpa using hown
theorem kinds {m : Mem} {d : Value} {x : DDb} {w : World} (hm : Sub m w) (hd : RDb m d x) (hx : OkDb x) :
    Does Tryd.prog 15 [d] w fun v w' => Own w' 3 1 v x.nodes.length (kindVals x.nodes) ∧ Ext w w' ∧ ∀ g, v.ownBlock = some g → w.heap.size ≤ g := by
  obtain ⟨s, ms, ts, rfl, hs, hms, hts⟩ := hd.h
  have n2 := hx.msgs
  have n3 := hx.tabs
  refine D15 ?_
  unfold S15
  refine r_box fun w1 e1 z1 b1 => ?_
  have b1 : Blk w1 w.heap.size (x.cells s ms ts) 32 := b1
  rw [Pure.run (p_field (o := 0) fld32_0), ld1 b1 one4 (o := 0 + 0) rfl]
  have l0 : Knd w (x.cells s ms ts) [] (.slice none 0 0) w1 := ⟨Own.nil _ _ _, fun g hg => by simp [Value.ownBlock] at hg, e1, b1⟩
  refine CondP.via (Knd w (x.cells s ms ts) (if x.has then [.ver x.ver] else [])) (fun l w2 hl => ?_) (fun h K hK => ?_) (fun h K hK => ?_)
  · refine hl.push (n := .sta x.sta) rfl (by split <;> simp) fun l' w4 hl => ?_
    obtain ⟨p, c, rfl, hpc⟩ := hms.form
    simp only [JoinP.eq]
    generalize hpre : ((if x.has = true then [DNode.ver x.ver] else []) ++ [.sta x.sta]) = pre at hl
    have hplen : pre.length ≤ 2 := by rw [← hpre]; split <;> simp
    refine LoopP.of2 (fun l i w' => ∃ k : Nat, k ≤ x.msgs.length ∧ i = .int .i64 k ∧ Knd w (x.cells s (.slice p x.msgs.length c) ts) (pre ++ (x.msgs.take k).map .msg) l w') (fun _ i _ => x.msgs.length - (intOf i).toNat)
      ⟨0, Nat.zero_le _, rfl, by simpa using hl⟩ ?_
    clear hl
    rintro l i w5 ⟨k, hk, rfl, hl⟩
    simp only [Pure.run (p_field (o := 0) fld32_3)]
    rw [ld1 hl.db one29 (o := 0 + 7) rfl]
    simp only [Pure.run (p_len sl29.slice), lss_r]
    refine CondP.dec (fun h => ?_) (fun h => ?_)
    · have hk' : k < x.msgs.length := by omega
      obtain ⟨y, hy⟩ : ∃ y, x.msgs[k]? = some y := ⟨x.msgs[k], by simp [hk']⟩
      refine hl.push (n := .msg y) rfl (by simp; omega) fun l' w9 hl => ?_
      simp only [add_r]
      refine ⟨⟨k + 1, by omega, succ64 (by omega), ?_⟩, ?_⟩
      · rw [take_snoc _ hy, ← List.append_assoc]; exact hl
      · rw [succ64 (by omega)]; simp [intOf]; omega
    · obtain rfl : k = x.msgs.length := by omega
      rw [List.take_length] at hl
      obtain ⟨p', c', rfl, hpc'⟩ := hts.form
      generalize hpre' : pre ++ x.msgs.map .msg = pre' at hl
      have hplen' : pre'.length ≤ 2 + x.msgs.length := by rw [← hpre']; simp; omega
      refine LoopP.of2 (fun l i w' => ∃ k : Nat, k ≤ x.tabs.length ∧ i = .int .i64 k ∧ Knd w (x.cells s (.slice p x.msgs.length c) (.slice p' x.tabs.length c')) (pre' ++ (x.tabs.take k).map .tab) l w') (fun _ i _ => x.tabs.length - (intOf i).toNat)
        ⟨0, Nat.zero_le _, rfl, by simpa using hl⟩ ?_
      clear hl
      rintro l i w5 ⟨k, hk, rfl, hl⟩
      simp only [Pure.run (p_field (o := 0) fld32_4)]
      rw [ld1 hl.db one30 (o := 0 + 8) rfl]
      simp only [Pure.run (p_len sl30.slice), lss_r]
      refine CondP.dec (fun h => ?_) (fun h => ?_)
      · have hk' : k < x.tabs.length := by omega
        obtain ⟨y, hy⟩ : ∃ y, x.tabs[k]? = some y := ⟨x.tabs[k], by simp [hk']⟩
        refine hl.push (n := .tab y) rfl (by simp; omega) fun l' w9 hl => ?_
        simp only [add_r]
        refine ⟨⟨k + 1, by omega, succ64 (by omega), ?_⟩, ?_⟩
        · rw [take_snoc _ hy, ← List.append_assoc]; exact hl
        · rw [succ64 (by omega)]; simp [intOf]; omega
      · obtain rfl : k = x.tabs.length := by omega
        rw [List.take_length] at hl
        have : x.nodes = pre' ++ x.tabs.map .tab := by rw [← hpre', ← hpre]; simp [DDb.nodes]
        rw [this]
        exact ⟨hl.own, hl.ext, hl.low⟩
  · refine l0.push (n := .ver x.ver) rfl (by simp) fun l' w3 hl => hK l' w3 ?_
    simpa [h] using hl
  · exact hK _ _ (by simpa [h] using l0)
end Go.Proofs.YtmgleeoecdodjaaDoor.Sh
