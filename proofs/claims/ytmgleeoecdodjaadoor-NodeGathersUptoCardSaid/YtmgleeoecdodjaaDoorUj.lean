/- Parts chosen by numbers. Conditions: lengths up to 2^30. -/
import Derived.Test.YtmgleeoecdodjaaDoorUi
set_option linter.unusedVariables false
set_option linter.unusedSimpArgs false
set_option maxRecDepth 10000
namespace Go.Proofs.YtmgleeoecdodjaaDoor.Sh
open Go Go.V Go.RowKit

abbrev RInt (cs : List Value) (x : Int) : Prop := cs = [Value.int .i64 x]
abbrev Ints (m : Mem) (v : Value) (l : List Int) : Prop := Sl m 1 RInt v l
def prt (sel : List (Option PNode)) : List DNode := (sel.filterMap id).map PNode.data
theorem prts_all (sel : List (Option PNode)) : prts sel sel.length = prt sel := by simp [prts, prt]
theorem prt_some (sel : List (Option PNode)) (n : PNode) : prt (sel ++ [some n]) = prt sel ++ [n.data] := by simp [prt]
theorem prt_none (sel : List (Option PNode)) : prt (sel ++ [none]) = prt sel := by simp [prt]
def vFirst (x : DDb) : Nat := if x.has then 1 else 0
theorem nodes_at_msg {x : DDb} {c : Nat} {y : DMsg} (h : x.nodes[c]? = some (.msg y)) : vFirst x + 1 ≤ c ∧ x.msgs[c - vFirst x - 1]? = some y := by
  unfold DDb.nodes at h
  unfold vFirst
  cases hh : x.has with
  | true =>
    rw [hh] at h
    simp only [if_true] at h ⊢
    match c, h with
    | 0, h => simp at h
    | 1, h => simp at h
    | c + 2, h =>
      simp only [List.cons_append, List.nil_append, List.getElem?_cons_succ] at h
      rw [List.getElem?_append] at h
      split at h
      · rename_i hlt
        rw [List.getElem?_map] at h
        obtain ⟨z, hz, he⟩ := Option.map_eq_some_iff.1 h
        injection he with he; subst he
        exact ⟨by omega, by rw [show c + 2 - 1 - 1 = c by omega]; exact hz⟩
      · rw [List.getElem?_map] at h
        obtain ⟨z, hz, he⟩ := Option.map_eq_some_iff.1 h
        cases he
  | false =>
    rw [hh] at h
    simp only [Bool.false_eq_true, if_false] at h ⊢
    match c, h with
    | 0, h => simp at h
    | c + 1, h =>
      simp only [List.cons_append, List.nil_append, List.getElem?_cons_succ] at h
      rw [List.getElem?_append] at h
      split at h
      · rename_i hlt
        rw [List.getElem?_map] at h
        obtain ⟨z, hz, he⟩ := Option.map_eq_some_iff.1 h
        injection he with he; subst he
        exact ⟨by omega, by rw [show c + 1 - 0 - 1 = c by omega]; exact hz⟩
      · rw [List.getElem?_map] at h
        obtain ⟨z, hz, he⟩ := Option.map_eq_some_iff.1 h
        cases he
theorem nodes_at_tab {x : DDb} {c : Nat} {y : DTab} (h : x.nodes[c]? = some (.tab y)) : vFirst x + 1 + x.msgs.length ≤ c ∧ x.tabs[c - vFirst x - 1 - x.msgs.length]? = some y := by
  unfold DDb.nodes at h
  unfold vFirst
  cases hh : x.has with
  | true =>
    rw [hh] at h
    simp only [if_true] at h ⊢
    match c, h with
    | 0, h => simp at h
    | 1, h => simp at h
    | c + 2, h =>
      simp only [List.cons_append, List.nil_append, List.getElem?_cons_succ] at h
      rw [List.getElem?_append] at h
      split at h
      · rw [List.getElem?_map] at h
        obtain ⟨z, hz, he⟩ := Option.map_eq_some_iff.1 h
        cases he
      · rename_i hlt
        rw [List.length_map] at hlt h
        rw [List.getElem?_map] at h
        obtain ⟨z, hz, he⟩ := Option.map_eq_some_iff.1 h
        injection he with he; subst he
        exact ⟨by omega, by rw [show c + 2 - 1 - 1 - x.msgs.length = c - x.msgs.length by omega]; exact hz⟩
  | false =>
    rw [hh] at h
    simp only [Bool.false_eq_true, if_false] at h ⊢
    match c, h with
    | 0, h => simp at h
    | c + 1, h =>
      simp only [List.cons_append, List.nil_append, List.getElem?_cons_succ] at h
      rw [List.getElem?_append] at h
      split at h
      · rw [List.getElem?_map] at h
        obtain ⟨z, hz, he⟩ := Option.map_eq_some_iff.1 h
        cases he
      · rename_i hlt
        rw [List.length_map] at hlt h
        rw [List.getElem?_map] at h
        obtain ⟨z, hz, he⟩ := Option.map_eq_some_iff.1 h
        injection he with he; subst he
        exact ⟨by omega, by rw [show c + 1 - 0 - 1 - x.msgs.length = c - x.msgs.length by omega]; exact hz⟩
/-- A database of references: its lists of messages and of tables are its own, the lists in them are in m. -/
structure Ref (m : Mem) (w : World) (lo : Nat) (x : DDb) (s ms ts : Value) : Prop where
  names : Texts m s x.sta.names
  msgs : ∃ q : List (List Value × DMsg), q.map (·.2) = x.msgs ∧ (∀ p ∈ q, p.1.length = 8 ∧ RMsg m p.1 p.2) ∧ Own w 77 8 ms q.length (q.flatMap (·.1))
  tabs : ∃ q : List (List Value × DTab), q.map (·.2) = x.tabs ∧ (∀ p ∈ q, p.1.length = 6 ∧ RTab m p.1 p.2) ∧ Own w 81 6 ts q.length (q.flatMap (·.1))
  lms : ∀ g, ms.ownBlock = some g → lo ≤ g
  lts : ∀ g, ts.ownBlock = some g → lo ≤ g
theorem Ref.keepT {Ts : List TypeId} {m : Mem} {w w' : World} {lo : Nat} {x : DDb} {s ms ts : Value} (h : Ref m w lo x s ms ts) (k : Keep Ts w w') (h1 : 77 ∉ Ts) (h2 : 81 ∉ Ts) : Ref m w' lo x s ms ts := by
  obtain ⟨q, a1, a2, a3⟩ := h.msgs
  obtain ⟨r, b1, b2, b3⟩ := h.tabs
  exact ⟨h.names, ⟨q, a1, a2, a3.keepT k h1⟩, ⟨r, b1, b2, b3.keepT k h2⟩, h.lms, h.lts⟩
theorem RSig.mono {M M' : Mem} {cs : List Value} {x : DSig} (hm : ∀ b o v, M b o = some v → M' b o = some v) (h : RSig M cs x) : RSig M' cs x := by
  obtain ⟨v, rfl, h1⟩ := h.h; exact ⟨v, rfl, h1.mono hm⟩
theorem RMsg.mono {M M' : Mem} {cs : List Value} {x : DMsg} (hm : ∀ b o v, M b o = some v → M' b o = some v) (h : RMsg M cs x) : RMsg M' cs x := by
  obtain ⟨v, rfl, h1⟩ := h.h; exact ⟨v, rfl, (h1.mono hm).imp fun _ _ h => RSig.mono hm h⟩
theorem RTab.mono {M M' : Mem} {cs : List Value} {x : DTab} (hm : ∀ b o v, M b o = some v → M' b o = some v) (h : RTab M cs x) : RTab M' cs x := by
  obtain ⟨v, rfl, h1⟩ := h.h; exact ⟨v, rfl, h1.mono hm⟩
theorem Ref.rdb {m : Mem} {w : World} {lo : Nat} {x : DDb} {s ms ts : Value} (h : Ref m w lo x s ms ts) (hm : Sub m w) : RDb (memW w) (x.agg s ms ts) x := by
  obtain ⟨q, a1, a2, a3⟩ := h.msgs
  obtain ⟨r, b1, b2, b3⟩ := h.tabs
  refine ⟨s, ms, ts, rfl, h.names.mono hm, ?_, ?_⟩
  · have hs : Sl (memW w) 8 (fun cs (p : List Value × DMsg) => RMsg (memW w) cs p.2) ms q := a3.sl (fun p hp => (a2 p hp).1) fun p hp => RMsg.mono hm (a2 p hp).2
    have := Sl.map hs
    rw [a1] at this
    exact this
  · have hs : Sl (memW w) 6 (fun cs (p : List Value × DTab) => RTab (memW w) cs p.2) ts r := b3.sl (fun p hp => (b2 p hp).1) fun p hp => RTab.mono hm (b2 p hp).2
    have := Sl.map hs
    rw [b1] at this
    exact this
/-- What has been chosen so far. -/
structure Cho (m : Mem) (w9 : World) (ns : List PNode) (l kv i : Value) (w' : World) : Prop where
  h : ∃ (sel : List (Option PNode)) (s ms ts : Value), i = .int .i64 sel.length ∧ (∀ p, some p ∈ sel → p ∈ ns) ∧ Ext w9 w' ∧ Own w' 49 1 l sel.length (sel.map oval) ∧ Own w' 3 1 kv sel.length ((sel.map okind).map (Value.int .i64)) ∧
    Blk w' w9.heap.size ((gDb (prt sel)).cells s ms ts) 32 ∧ Ref m w' w9.heap.size (gDb (prt sel)) s ms ts ∧ (∀ g, l.ownBlock = some g → w9.heap.size ≤ g) ∧ (∀ g, kv.ownBlock = some g → w9.heap.size ≤ g)
structure Chosen (x : DDb) (n : Nat) (w : World) (r : Value) (w' : World) : Prop where
  ext : Ext w w'
  h : ∃ (ns : List PNode) (sel : List (Option PNode)) (l k v : Value), r = .tuple #[l, k, v] ∧ ns.map PNode.data = x.nodes ∧ ONodes w' w.heap.size ns w'.heap.size ∧ sel.length = n ∧ (∀ p, some p ∈ sel → p ∈ ns) ∧ Own w' 49 1 l sel.length (sel.map oval) ∧ Own w' 3 1 k sel.length ((sel.map okind).map (Value.int .i64)) ∧
    RDb (memW w') v (gDb (prt sel))
end Go.Proofs.YtmgleeoecdodjaaDoor.Sh
