/- A database that is gathered of parts. Conditions: lengths up to 2^30. -/
import Derived.Test.YtmgleeoecdodjaaDoorUf
import Derived.Test.YtmgleeoecdodjaaDoorUd
set_option linter.unusedVariables false
set_option linter.unusedSimpArgs false
set_option maxRecDepth 10000
namespace Go.Proofs.YtmgleeoecdodjaaDoor.Sh
open Go Go.V Go.RowKit

abbrev QM : Type := DMsg × Value × List Value
abbrev QT : Type := DTab × Value
def mC (q : QM) : List Value := q.1.pre ++ [q.2.1]
def tC (q : QT) : List Value := q.1.pre ++ [q.2]
/-- A database in rows of its own, from lo on. -/
structure Gat (w : World) (lo : Nat) (x : DDb) (s ms ts : Value) (qm : List QM) (qt : List QT) : Prop where
  msgs : qm.map (·.1) = x.msgs
  tabs : qt.map (·.1) = x.tabs
  names : Own w 9 1 s x.sta.names.length (strs x.sta.names)
  omsg : ∀ q ∈ qm, ∃ a b, OMsg w a b q.1 q.2.1 q.2.2
  otab : ∀ q ∈ qt, Own w 133 2 q.2 q.1.rows.length (rowCells q.1.rows)
  oms : Own w 77 8 ms qm.length (qm.flatMap mC)
  ots : Own w 81 6 ts qt.length (qt.flatMap tC)
  lms : ∀ g, ms.ownBlock = some g → lo ≤ g
  lts : ∀ g, ts.ownBlock = some g → lo ≤ g
  inc : ∃ mid, lo ≤ mid ∧ mid ≤ w.heap.size ∧ Inc lo [s] mid ∧ Inc mid (qm.flatMap (·.2.2)) w.heap.size ∧ Inc mid (qm.map (·.2.1)) w.heap.size ∧ Inc mid (qt.map (·.2)) w.heap.size
def GT : List TypeId := [9, 130, 133, 77, 81]
theorem Gat.keepT {Ts : List TypeId} {w w' : World} {lo : Nat} {x : DDb} {s ms ts : Value} {qm : List QM} {qt : List QT} (h : Gat w lo x s ms ts qm qt) (k : Keep Ts w w') (h1 : ∀ t ∈ GT, t ∉ Ts) : Gat w' lo x s ms ts qm qt := by
  have a1 := h1 9 (by simp [GT])
  have a2 := h1 130 (by simp [GT])
  have a3 := h1 133 (by simp [GT])
  have a4 := h1 77 (by simp [GT])
  have a5 := h1 81 (by simp [GT])
  obtain ⟨mid, i1, i2, i3, i4, i5, i6⟩ := h.inc
  have hs := k.size
  exact ⟨h.msgs, h.tabs, h.names.keepT k a1, fun q hq => by obtain ⟨a, b, ho⟩ := h.omsg q hq; exact ⟨a, b, OMsg.keep ho k a1 a2⟩, fun q hq => (h.otab q hq).keepT k a3, h.oms.keepT k a4, h.ots.keepT k a5, h.lms, h.lts,
    mid, i1, Nat.le_trans i2 hs, i3, i4.mono (Nat.le_refl _) hs, i5.mono (Nat.le_refl _) hs, i6.mono (Nat.le_refl _) hs⟩
theorem Gat.ext {w w' : World} {lo : Nat} {x : DDb} {s ms ts : Value} {qm : List QM} {qt : List QT} (h : Gat w lo x s ms ts qm qt) (e : Ext w w') : Gat w' lo x s ms ts qm qt := h.keepT (.ext e []) (by simp)
theorem Gat.start {w : World} {lo : Nat} (h : lo ≤ w.heap.size) : Gat w lo zDb (.slice none 0 0) (.slice none 0 0) (.slice none 0 0) [] [] :=
  ⟨rfl, rfl, Own.nil _ _ _, fun q hq => by simp at hq, fun q hq => by simp at hq, Own.nil _ _ _, Own.nil _ _ _, fun g hg => by simp [Value.ownBlock] at hg, fun g hg => by simp [Value.ownBlock] at hg, lo, Nat.le_refl _, h, Inc.one (Nat.le_refl _) fun g hg => by simp [Value.ownBlock] at hg, h, h, h⟩
theorem Gat.ver {w : World} {lo : Nat} {x : DDb} {s ms ts : Value} {qm : List QM} {qt : List QT} (h : Gat w lo x s ms ts qm qt) (v : DVer) : Gat w lo (gStep x (.ver v)) s ms ts qm qt :=
  ⟨h.msgs, h.tabs, h.names, h.omsg, h.otab, h.oms, h.ots, h.lms, h.lts, h.inc⟩
theorem Gat.sta {w w' : World} {lo : Nat} {x : DDb} {s ms ts s' : Value} (h : Gat w lo x s ms ts [] []) (y : DSta) (e : Ext w w') (hlo : lo ≤ w.heap.size) (ho : Own w' 9 1 s' y.names.length (strs y.names)) (hl : ∀ g, s'.ownBlock = some g → w.heap.size ≤ g) : Gat w' lo (gStep x (.sta y)) s' ms ts [] [] :=
  have h' := h.ext e
  ⟨h'.msgs, h'.tabs, ho, h'.omsg, h'.otab, h'.oms, h'.ots, h'.lms, h'.lts, w'.heap.size, Nat.le_trans hlo e.size, Nat.le_refl _, Inc.one (Nat.le_trans hlo e.size) fun g hg => ⟨Nat.le_trans hlo (hl g hg), ho.lt hg⟩, Nat.le_refl _, Nat.le_refl _, Nat.le_refl _⟩
theorem Gat.msg {w w1 w2 : World} {lo : Nat} {x : DDb} {s ms ts ms' v : Value} {tvs : List Value} {qm : List QM} {qt : List QT} {y : DMsg} (h : Gat w lo x s ms ts qm qt) (hlo : lo ≤ w.heap.size) (e : Ext w w1) (ho : OMsg w1 w.heap.size w1.heap.size y v tvs)
    (hg : Grow w1 w2 ms ms') (hown : Own w2 77 8 ms' (qm.length + 1) (qm.flatMap mC ++ (y.pre ++ [v]))) : Gat w2 lo (gStep x (.msg y)) s ms' ts (qm ++ [(y, v, tvs)]) qt := by
  have h1 := h.ext e
  have k : Keep [77] w1 w2 := .grow hg h1.oms _ (by simp)
  obtain ⟨mid, i1, i2, i3, i4, i5, i6⟩ := h.inc
  have s1 := e.size
  have s2 := k.size
  have ho2 : OMsg w2 w.heap.size w2.heap.size y v tvs := by
    have := OMsg.keep ho k (by decide) (by decide)
    exact ⟨this.len, this.own, this.texts, this.inc.mono (Nat.le_refl _) s2⟩
  obtain ⟨m2, j1, j2, j3⟩ := ho2.inc
  refine ⟨by simp [h.msgs, gStep], h.tabs, h1.names.keepT k (by decide), fun q hq => ?_, fun q hq => (h1.otab q hq).keepT k (by decide), by simpa [mC] using hown, h1.ots.keepT k (by decide), hg.low (Nat.le_trans hlo s1) h.lms, h.lts, mid, i1, by omega, i3, ?_, ?_, i6.mono (Nat.le_refl _) (by omega)⟩
  · rcases List.mem_append.1 hq with hq | hq
    · obtain ⟨a, b, ho⟩ := h1.omsg q hq; exact ⟨a, b, OMsg.keep ho k (by decide) (by decide)⟩
    · simp only [List.mem_singleton] at hq; subst hq; exact ⟨_, _, ho2⟩
  · rw [List.flatMap_append]
    have : [((y, v, tvs) : QM)].flatMap (·.2.2) = tvs := by simp
    rw [this]
    exact i4.append (j3.mono j1 (Nat.le_refl _))
  · rw [List.map_append]
    exact i5.append (Inc.one (by omega) fun g hg => by have := j2 g hg; have := j3.le; omega)
theorem Gat.tab {w w1 w2 : World} {lo : Nat} {x : DDb} {s ms ts ts' v : Value} {qm : List QM} {qt : List QT} {y : DTab} (h : Gat w lo x s ms ts qm qt) (hlo : lo ≤ w.heap.size) (e : Ext w w1) (ho : Own w1 133 2 v y.rows.length (rowCells y.rows)) (hl : ∀ g, v.ownBlock = some g → w.heap.size ≤ g)
    (hg : Grow w1 w2 ts ts') (hown : Own w2 81 6 ts' (qt.length + 1) (qt.flatMap tC ++ (y.pre ++ [v]))) : Gat w2 lo (gStep x (.tab y)) s ms ts' qm (qt ++ [(y, v)]) := by
  have h1 := h.ext e
  have k : Keep [81] w1 w2 := .grow hg h1.ots _ (by simp)
  obtain ⟨mid, i1, i2, i3, i4, i5, i6⟩ := h.inc
  have s1 := e.size
  have s2 := k.size
  refine ⟨h.msgs, by simp [h.tabs, gStep], h1.names.keepT k (by decide), fun q hq => by obtain ⟨a, b, ho⟩ := h1.omsg q hq; exact ⟨a, b, OMsg.keep ho k (by decide) (by decide)⟩, fun q hq => ?_, h1.oms.keepT k (by decide), by simpa [tC] using hown, h.lms, hg.low (Nat.le_trans hlo s1) h.lts, mid, i1, by omega, i3, i4.mono (Nat.le_refl _) (by omega), i5.mono (Nat.le_refl _) (by omega), ?_⟩
  · rcases List.mem_append.1 hq with hq | hq
    · exact (h1.otab q hq).keepT k (by decide)
    · simp only [List.mem_singleton] at hq; subst hq; exact ho.keepT k (by decide)
  · rw [List.map_append]
    exact i6.append (Inc.one (by omega) fun g hg => ⟨hl g hg, Nat.lt_of_lt_of_le (ho.lt hg) s2⟩)
/-- A database so gathered, read from memory. -/
theorem Gat.rdb {w : World} {lo : Nat} {x : DDb} {s ms ts : Value} {qm : List QM} {qt : List QT} (h : Gat w lo x s ms ts qm qt) : RDb (memW w) (x.agg s ms ts) x := by
  refine ⟨s, ms, ts, rfl, Own.texts h.names, ?_, ?_⟩
  · have hs : Sl (memW w) 8 (fun cs (q : QM) => RMsg (memW w) cs q.1) ms qm := h.oms.sl (fun q _ => rfl) fun q hq => by
      obtain ⟨a, b, ho⟩ := h.omsg q hq
      exact ⟨q.2.1, rfl, OMsg.sigs ho⟩
    have := Sl.map hs
    rw [h.msgs] at this
    exact this
  · have hs : Sl (memW w) 6 (fun cs (q : QT) => RTab (memW w) cs q.1) ts qt := h.ots.sl (fun q _ => rfl) fun q hq => ⟨q.2, rfl, Own.rows (h.otab q hq)⟩
    have := Sl.map hs
    rw [h.tabs] at this
    exact this
end Go.Proofs.YtmgleeoecdodjaaDoor.Sh
