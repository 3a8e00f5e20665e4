/- The parts of a database as node.List makes them. Conditions: lengths up to 2^30. -/
import Derived.Test.YtmgleeoecdodjaaDoorTc
set_option linter.unusedVariables false
set_option linter.unusedSimpArgs false
set_option maxRecDepth 10000
namespace Go.V
open Go.RowKit
variable {P : Program}
/-- All rows of other types stay. -/
structure Keep (Ts : List TypeId) (w w' : World) : Prop where
  size : w.heap.size ≤ w'.heap.size
  blk : ∀ g l t, t ∉ Ts → Blk w g l t → Blk w' g l t
theorem Keep.refl (Ts : List TypeId) (w : World) : Keep Ts w w := ⟨Nat.le_refl _, fun _ _ _ _ h => h⟩
theorem Keep.ext {w w' : World} (e : Ext w w') (Ts : List TypeId) : Keep Ts w w' := ⟨e.size, fun _ _ _ _ h => h.ext e⟩
theorem Keep.trans {Ts : List TypeId} {w w' w'' : World} (h : Keep Ts w w') (h' : Keep Ts w' w'') : Keep Ts w w'' := ⟨Nat.le_trans h.size h'.size, fun g l t ht hb => h'.blk g l t ht (h.blk g l t ht hb)⟩
theorem Keep.mono {Ts Us : List TypeId} {w w' : World} (h : Keep Ts w w') (hs : ∀ t ∈ Ts, t ∈ Us) : Keep Us w w' := ⟨h.size, fun g l t ht hb => h.blk g l t (fun h => ht (hs t h)) hb⟩
theorem Keep.chg {w w' : World} {b : Nat} {l : List Value} {t : TypeId} (c : Chg b w w') (hb : Blk w b l t) (Ts : List TypeId) (ht : t ∈ Ts) : Keep Ts w w' := ⟨Nat.le_of_eq c.size.symm, fun g l' t' ht' hb' => hb'.chg c (fun e => by
  subst e
  unfold Blk at hb hb'
  rw [hb] at hb'
  injection hb' with h
  injection h with _ h2
  exact ht' (h2 ▸ ht))⟩
theorem Keep.grow {w w' : World} {e sz n : Nat} {v v' : Value} {xs : List Value} (g : Grow w w' v v') (h : Own w e sz v n xs) (Ts : List TypeId) (ht : e ∈ Ts) : Keep Ts w w' := ⟨g.size, fun b l t ht' hb => (g.block b hb.lt (fun e' => by
  rcases h.2 with ⟨rfl, _⟩ | ⟨b', cap, ys, rfl, _, _, _, hb'⟩
  · simp [Value.ownBlock] at e'
  · simp [Value.ownBlock] at e'
    subst e'
    unfold Blk at hb hb'
    rw [hb] at hb'
    injection hb' with h
    injection h with _ h2
    exact ht' (h2 ▸ ht))).trans hb⟩
theorem Own.keepT {Ts : List TypeId} {w w' : World} {e sz n : Nat} {v : Value} {xs : List Value} (h : Own w e sz v n xs) (k : Keep Ts w w') (he : e ∉ Ts) : Own w' e sz v n xs := by
  refine ⟨h.1, ?_⟩
  rcases h.2 with hn | ⟨g, cap, ys, rfl, h1, h2, h3, hb⟩
  · exact .inl hn
  · exact .inr ⟨g, cap, ys, rfl, h1, h2, h3, k.blk _ _ _ he hb⟩
theorem CondP.via {b : Bool} {A B : NF 1 → Prop} {K : NF 1} (I : Value → World → Prop) (hk : ∀ v w', I v w' → K v w') (h1 : b = true → ∀ K' : NF 1, (∀ v w', I v w' → K' v w') → A K') (h2 : b = false → ∀ K' : NF 1, (∀ v w', I v w' → K' v w') → B K') : CondP (.bool b) 1 A B K :=
  CondP.of (fun h => h1 h K hk) (fun h => h2 h K hk)
end Go.V
namespace Go.Proofs.YtmgleeoecdodjaaDoor.Sh
open Go Go.V Go.RowKit

inductive DNode where
  | ver (x : DVer)
  | sta (x : DSta)
  | msg (x : DMsg)
  | tab (x : DTab)
inductive PNode where
  | ver (x : DVer)
  | sta (x : DSta) (v : Value)
  | msg (x : DMsg) (v : Value) (tvs : List Value)
  | tab (x : DTab) (v : Value)
def PNode.data : PNode → DNode
  | .ver x => .ver x
  | .sta x _ => .sta x
  | .msg x _ _ => .msg x
  | .tab x _ => .tab x
def PNode.val : PNode → Value
  | .ver x => .iface 25 x.agg
  | .sta x v => .iface 28 (x.agg v)
  | .msg x v _ => .iface 77 (x.agg v)
  | .tab x v => .iface 81 (x.agg v)
def PNode.texts : PNode → List Value
  | .ver _ => []
  | .sta _ v => [v]
  | .msg _ _ tvs => tvs
  | .tab _ _ => []
def PNode.sigs : PNode → List Value
  | .msg _ v _ => [v]
  | _ => []
def PNode.rows : PNode → List Value
  | .tab _ v => [v]
  | _ => []
/-- A part is in memory, its lists in rows of their own from lo on. -/
def ONode (w : World) (lo hi : Nat) : PNode → Prop
  | .ver _ => lo ≤ hi
  | .sta x v => Own w 9 1 v x.names.length (strs x.names) ∧ Inc lo [v] hi
  | .msg x v tvs => OMsg w lo hi x v tvs
  | .tab x v => Own w 133 2 v x.rows.length (rowCells x.rows) ∧ Inc lo [v] hi
def ONodes (w : World) : Nat → List PNode → Nat → Prop
  | lo, [], hi => lo ≤ hi
  | lo, n :: ns, hi => ∃ mid, ONode w lo mid n ∧ ONodes w mid ns hi
theorem OMsg.keep {Ts : List TypeId} {w w' : World} {lo hi : Nat} {x : DMsg} {v : Value} {tvs : List Value} (h : OMsg w lo hi x v tvs) (k : Keep Ts w w') (h1 : 9 ∉ Ts) (h2 : 130 ∉ Ts) : OMsg w' lo hi x v tvs :=
  ⟨h.len, h.own.keepT k h2, fun j s tv e1 e2 => (h.texts j s tv e1 e2).keepT k h1, h.inc⟩
theorem ONode.keep {Ts : List TypeId} {w w' : World} {lo hi : Nat} {n : PNode} (h : ONode w lo hi n) (k : Keep Ts w w') (h1 : 9 ∉ Ts) (h2 : 130 ∉ Ts) (h3 : 133 ∉ Ts) : ONode w' lo hi n := by
  cases n with
  | ver x => exact h
  | sta x v => exact ⟨h.1.keepT k h1, h.2⟩
  | msg x v tvs => exact OMsg.keep h k h1 h2
  | tab x v => exact ⟨h.1.keepT k h3, h.2⟩
theorem ONode.mono {w : World} {lo lo' hi hi' : Nat} {n : PNode} (h : ONode w lo hi n) (h1 : lo' ≤ lo) (h2 : hi ≤ hi') : ONode w lo' hi' n := by
  cases n with
  | ver x => exact Nat.le_trans (Nat.le_trans h1 h) h2
  | sta x v => exact ⟨h.1, h.2.mono h1 h2⟩
  | msg x v tvs => exact ⟨h.len, h.own, h.texts, h.inc.mono h1 h2⟩
  | tab x v => exact ⟨h.1, h.2.mono h1 h2⟩
theorem ONodes.keep {Ts : List TypeId} {w w' : World} (k : Keep Ts w w') (h1 : 9 ∉ Ts) (h2 : 130 ∉ Ts) (h3 : 133 ∉ Ts) : ∀ {ns : List PNode} {lo hi : Nat}, ONodes w lo ns hi → ONodes w' lo ns hi
  | [], _, _, h => h
  | _ :: _, _, _, ⟨mid, m1, m2⟩ => ⟨mid, m1.keep k h1 h2 h3, m2.keep k h1 h2 h3⟩
theorem ONodes.mono {w : World} : ∀ {ns : List PNode} {lo hi hi' : Nat}, ONodes w lo ns hi → hi ≤ hi' → ONodes w lo ns hi'
  | [], _, _, _, h, h' => Nat.le_trans h h'
  | _ :: _, _, _, _, ⟨mid, m1, m2⟩, h' => ⟨mid, m1, m2.mono h'⟩
theorem ONodes.snoc {w : World} {n : PNode} : ∀ {ns : List PNode} {lo mid hi : Nat}, ONodes w lo ns mid → ONode w mid hi n → ONodes w lo (ns ++ [n]) hi
  | [], _, mid, hi, h, h' => ⟨hi, h'.mono h (Nat.le_refl _), Nat.le_refl _⟩
  | _ :: _, _, _, _, ⟨m, m1, m2⟩, h' => ⟨m, m1, m2.snoc h'⟩
theorem ONodes.get {w : World} : ∀ {ns : List PNode} {lo hi : Nat}, ONodes w lo ns hi → ∀ {i : Nat} {n : PNode}, ns[i]? = some n → ∃ a b, ONode w a b n
  | [], _, _, _, i, n, h => by simp at h
  | x :: ns, _, _, ⟨mid, m1, m2⟩, 0, n, h => by simp at h; subst h; exact ⟨_, _, m1⟩
  | x :: ns, _, _, ⟨mid, m1, m2⟩, i + 1, n, h => m2.get (i := i) (by simpa using h)

theorem unVer : Tryd.prog.underlying 25 = some (.struct (Tryd.prog.fieldsOf 25)) := by kernel_rfl
theorem unSta : Tryd.prog.underlying 28 = some (.struct (Tryd.prog.fieldsOf 28)) := by kernel_rfl
theorem unMsg : Tryd.prog.underlying 77 = some (.struct (Tryd.prog.fieldsOf 77)) := by kernel_rfl
theorem unTab : Tryd.prog.underlying 81 = some (.struct (Tryd.prog.fieldsOf 81)) := by kernel_rfl

def DDb.cells (x : DDb) (s m t : Value) : List Value := [.bool x.has, .int .i64 x.ver.line, .int .i64 x.ver.col, .string x.ver.text, .int .i64 x.sta.line, .int .i64 x.sta.col, s, m, t]
theorem DDb.agg_eq (x : DDb) (s m t : Value) : x.agg s m t = .agg (x.cells s m t).toArray := rfl
def DDb.nodes (x : DDb) : List DNode := (if x.has then [.ver x.ver] else []) ++ ([.sta x.sta] ++ (x.msgs.map .msg ++ x.tabs.map .tab))
theorem take_snoc {α β : Type} (f : α → β) {xs : List α} {k : Nat} {y : α} (h : xs[k]? = some y) : (xs.take (k + 1)).map f = (xs.take k).map f ++ [f y] := by
  rw [List.take_succ_eq_append_getElem (List.getElem?_eq_some_iff.1 h).1, (List.getElem?_eq_some_iff.1 h).2]
  simp
/-- What List has made so far. -/
structure Lst (w : World) (dc : List Value) (ds : List DNode) (l : Value) (w' : World) : Prop where
  nodes : ∃ ns : List PNode, ns.map PNode.data = ds ∧ Own w' 49 1 l ns.length (ns.map PNode.val) ∧ ONodes w' w.heap.size ns w'.heap.size
  low : ∀ g, l.ownBlock = some g → w.heap.size ≤ g
  ext : Ext w w'
  db : Blk w' w.heap.size dc 32
theorem Lst.below {w w' : World} {dc : List Value} {ds : List DNode} {l : Value} (h : Lst w dc ds l w') {w'' : World} (e : Ext w' w'') : Lst w dc ds l w'' := by
  obtain ⟨ns, h1, h2, h3⟩ := h.nodes
  exact ⟨⟨ns, h1, h2.ext e, (h3.keep (.ext e []) (by simp) (by simp) (by simp)).mono e.size⟩, h.low, h.ext.trans e, h.db.ext e⟩
theorem Lst.push {w w1 w2 : World} {dc : List Value} {ds : List DNode} {l y : Value} {n : PNode} {K : Value → World → Prop} (h : Lst w dc ds l w1) (e : Ext w1 w2) (hy : y = n.val) (hn : ONode w2 w1.heap.size w2.heap.size n) (hlen : ds.length ≤ 3221225475)
    (k : ∀ l' w3, Lst w dc (ds ++ [n.data]) l' w3 → K l' w3) :
    Run Tryd.prog (Instr.buildSlice 35 1 #[(0, y)]) w2 fun y w3 => Run Tryd.prog (Builtin.append_ #[35, 35] 35 #[l, y]) w3 K := by
  subst hy
  obtain ⟨ns, h1, h2, h3⟩ := h.nodes
  have hl : ns.length = ds.length := by rw [← h1, List.length_map]
  have hc : n.val.cells = #[n.val] := by cases n <;> rfl
  have ho : n.val.oneCell' = true := by cases n <;> rfl
  have h2' := h2.ext e
  have hsz := e.size
  refine r_append1 sl35 h2' (by rw [hc]; rfl) (by rw [hc]; simpa using ho) (by unfold maxLen; omega) (by omega) fun l' w3 hown hg => ?_
  have hkeep : Keep [49] w2 w3 := .grow hg h2' _ (by simp)
  have hB : w.heap.size ≤ w2.heap.size := Nat.le_trans h.ext.size e.size
  refine k l' w3 ⟨⟨ns ++ [n], by simp [h1], ?_, ?_⟩, hg.low hB h.low, Below.trans (h.ext.trans e) (hg.below hB h.low), hkeep.blk _ _ _ (by decide) (h.db.ext e)⟩
  · rw [hc] at hown; simpa using hown
  · refine ONodes.snoc (mid := w1.heap.size) ((h3.keep (.ext e []) (by simp) (by simp) (by simp)).keep hkeep (by decide) (by decide) (by decide)) ?_
    exact (hn.keep hkeep (by decide) (by decide) (by decide)).mono (Nat.le_refl _) hg.size
/-- What List answers. -/
structure Listed (x : DDb) (w : World) (v : Value) (w' : World) : Prop where
  ext : Ext w w'
  nodes : ∃ ns : List PNode, ns.map PNode.data = x.nodes ∧ Own w' 49 1 v ns.length (ns.map PNode.val) ∧ ONodes w' w.heap.size ns w'.heap.size
  low : ∀ g, v.ownBlock = some g → w.heap.size ≤ g
theorem list {m : Mem} {d : Value} {x : DDb} {w : World} (hm : Sub m w) (hd : RDb m d x) (hx : OkDb x) : Does Tryd.prog 5 [d] w (Listed x w) := by
  obtain ⟨s, ms, ts, rfl, hs, hms, hts⟩ := hd.h
  have n1 := hx.names
  have n2 := hx.msgs
  have n3 := hx.tabs
  refine D5 ?_
  unfold S5
  refine r_box fun w1 e1 z1 b1 => ?_
  have b1 : Blk w1 w.heap.size (x.cells s ms ts) 32 := b1
  rw [Pure.run (p_field (o := 0) fld32_0), ld1 b1 one4 (o := 0 + 0) rfl]
  have l0 : Lst w (x.cells s ms ts) [] (.slice none 0 0) w1 := ⟨⟨[], rfl, Own.nil _ _ _, e1.size⟩, fun g hg => by simp [Value.ownBlock] at hg, e1, b1⟩
  refine CondP.via (Lst w (x.cells s ms ts) (if x.has then [.ver x.ver] else [])) (fun l w2 hl => ?_) (fun h K hK => ?_) (fun h K hK => ?_)
  · rw [Pure.run (p_field (o := 0) fld32_2), ldN hl.db agg28 (o := 0 + 4) rfl]
    refine GoN.does pl19 (stations (x := x.sta) (hm.ext hl.ext) hs n1) ?_
    rintro r w3 ⟨v', rfl, hc⟩
    rw [Pure.run (p_iface unSta (by simp))]
    have htx := Cloned.texts hc
    refine hl.push (n := .sta x.sta v') hc.ext rfl ⟨htx, Inc.one hc.ext.size fun g hg => ⟨hc.low g hg, htx.lt hg⟩⟩ (by split <;> simp) fun l' w4 hl => ?_
    clear hc htx
    rw [Pure.run (p_field (o := 0) fld32_3), ld1 hl.db one29 (o := 0 + 7) rfl]
    obtain ⟨p, c, rfl, hpc⟩ := hms.form
    simp only [Pure.run (p_len sl29.slice), JoinP.eq]
    generalize hpre : ((if x.has = true then [DNode.ver x.ver] else []) ++ [PNode.data (.sta x.sta v')]) = pre at hl
    have hplen : pre.length ≤ 2 := by rw [← hpre]; split <;> simp
    refine LoopP.of2 (fun l i w' => ∃ k : Nat, k ≤ x.msgs.length ∧ i = .int .i64 k ∧ Lst w (x.cells s (.slice p x.msgs.length c) ts) (pre ++ (x.msgs.take k).map .msg) l w') (fun _ i _ => x.msgs.length - (intOf i).toNat)
      ⟨0, Nat.zero_le _, rfl, by simpa using hl⟩ ?_
    clear hl
    rintro l i w5 ⟨k, hk, rfl, hl⟩
    simp only [lss_r]
    refine CondP.dec (fun h => ?_) (fun h => ?_)
    · have hk' : k < x.msgs.length := by omega
      obtain ⟨y, hy⟩ : ∃ y, x.msgs[k]? = some y := ⟨x.msgs[k], by simp [hk']⟩
      obtain ⟨b, o, cs, rfl, _, _, _, hat, ⟨v1, rfl, hsg⟩⟩ := hms.get hy
      show Run _ _ _ _
      rw [Pure.run (p_idx (e := 77) (sz := 8) sl29.slice size77 (by omega) (by omega))]
      refine r_loadN agg77 rfl (hat w5 (hm.ext hl.ext)) ?_
      refine r_alloc zero77 fun w6 e6 z6 b6 => ?_
      refine r_store size77 rfl rfl (fun u hu => by
        simp only [Value.cells, List.mem_append, List.mem_singleton] at hu
        rcases hu with hu | hu
        · exact one_msgpre y u hu
        · subst hu; exact one_sl hsg) b6 (by decide) fun w7 c7 b7 => ?_
      have b7 : Blk w7 w5.heap.size (y.pre ++ [v1]) 77 := b7
      rw [ldN b7 agg77 (o := 0) rfl]
      have e57 : Ext w5 w7 := Ext.chg e6 c7 (Nat.le_refl _)
      refine GoN.does pl20 (message (x := y) (hm.ext (hl.ext.trans e57)) hsg (hx.msg y (List.mem_of_getElem? hy))) ?_
      rintro r w8 ⟨v', tvs, rfl, e8, ho⟩
      rw [Pure.run (p_iface unMsg (by simp))]
      refine hl.push (n := .msg y v' tvs) (e57.trans e8) rfl ⟨ho.len, ho.own, ho.texts, ho.inc.mono e57.size (Nat.le_refl _)⟩ (by simp; omega) fun l' w9 hl => ?_
      simp only [add_r]
      refine ⟨⟨k + 1, by omega, succ64 (by omega), ?_⟩, ?_⟩
      · rw [take_snoc _ hy, ← List.append_assoc]; exact hl
      · rw [succ64 (by omega)]; simp [intOf]; omega
    · obtain rfl : k = x.msgs.length := by omega
      rw [List.take_length] at hl
      rw [Pure.run (p_field (o := 0) fld32_4), ld1 hl.db one30 (o := 0 + 8) rfl]
      obtain ⟨p', c', rfl, hpc'⟩ := hts.form
      simp only [Pure.run (p_len sl30.slice), JoinP.eq]
      generalize hpre' : pre ++ x.msgs.map .msg = pre' at hl
      have hplen' : pre'.length ≤ 2 + x.msgs.length := by rw [← hpre']; simp; omega
      refine LoopP.of2 (fun l i w' => ∃ k : Nat, k ≤ x.tabs.length ∧ i = .int .i64 k ∧ Lst w (x.cells s (.slice p x.msgs.length c) (.slice p' x.tabs.length c')) (pre' ++ (x.tabs.take k).map .tab) l w') (fun _ i _ => x.tabs.length - (intOf i).toNat)
        ⟨0, Nat.zero_le _, rfl, by simpa using hl⟩ ?_
      clear hl
      rintro l i w5 ⟨k, hk, rfl, hl⟩
      simp only [lss_r]
      refine CondP.dec (fun h => ?_) (fun h => ?_)
      · have hk' : k < x.tabs.length := by omega
        obtain ⟨y, hy⟩ : ∃ y, x.tabs[k]? = some y := ⟨x.tabs[k], by simp [hk']⟩
        obtain ⟨b, o, cs, rfl, _, _, _, hat, ⟨v1, rfl, hsg⟩⟩ := hts.get hy
        show Run _ _ _ _
        rw [Pure.run (p_idx (e := 81) (sz := 6) sl30.slice size81 (by omega) (by omega))]
        refine r_loadN agg81 rfl (hat w5 (hm.ext hl.ext)) ?_
        refine r_alloc zero81 fun w6 e6 z6 b6 => ?_
        refine r_store size81 rfl rfl (fun u hu => by
          simp only [Value.cells, List.mem_append, List.mem_singleton] at hu
          rcases hu with hu | hu
          · exact one_tabpre y u hu
          · subst hu; exact one_sl hsg) b6 (by decide) fun w7 c7 b7 => ?_
        have b7 : Blk w7 w5.heap.size (y.pre ++ [v1]) 81 := b7
        rw [ldN b7 agg81 (o := 0) rfl]
        have e57 : Ext w5 w7 := Ext.chg e6 c7 (Nat.le_refl _)
        refine GoN.does pl21 (table (x := y) (hm.ext (hl.ext.trans e57)) hsg (hx.tab y (List.mem_of_getElem? hy))) ?_
        rintro r w8 ⟨v', rfl, hc⟩
        rw [Pure.run (p_iface unTab (by simp))]
        have hro := Cloned.rows hc
        refine hl.push (n := .tab y v') (e57.trans hc.ext) rfl ⟨hro, Inc.one (e57.trans hc.ext).size fun g hg => ⟨Nat.le_trans e57.size (hc.low g hg), hro.lt hg⟩⟩ (by simp; omega) fun l' w9 hl => ?_
        simp only [add_r]
        refine ⟨⟨k + 1, by omega, succ64 (by omega), ?_⟩, ?_⟩
        · rw [take_snoc _ hy, ← List.append_assoc]; exact hl
        · rw [succ64 (by omega)]; simp [intOf]; omega
      · obtain rfl : k = x.tabs.length := by omega
        rw [List.take_length] at hl
        obtain ⟨ns, h1, h2, h3⟩ := hl.nodes
        refine ⟨hl.ext, ⟨ns, ?_, h2, h3⟩, hl.low⟩
        rw [h1, ← hpre', ← hpre]
        simp [DDb.nodes, PNode.data]
  · rw [Pure.run (p_field (o := 0) fld32_1), ldN b1 agg25 (o := 0 + 1) rfl, Pure.run (p_iface unVer (by simp))]
    refine l0.push (n := .ver x.ver) (Ext.refl _) rfl (Nat.le_refl _) (by simp) fun l' w3 hl => hK l' w3 ?_
    simpa [h, PNode.data] using hl
  · exact hK _ _ (by simpa [h] using l0)
end Go.Proofs.YtmgleeoecdodjaaDoor.Sh
