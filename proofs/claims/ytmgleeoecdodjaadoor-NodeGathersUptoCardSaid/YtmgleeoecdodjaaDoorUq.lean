/- What is known of a gathered database, and of the book that holds two. Conditions: lengths up to 2^20. -/
import Derived.Test.YtmgleeoecdodjaaDoorUp
import Derived.Test.YtmgleeoecdodjaaDoorUk
import Derived.Test.YtmgleeoecdodjaaDoorUo
import Derived.Test.YtmgleeoecdodjaaDoorToo
set_option linter.unusedVariables false
set_option linter.unusedSimpArgs false
set_option maxRecDepth 10000
namespace Go.V
theorem CondP.via0 {b : Bool} {A B : NF 0 → Prop} {K : NF 0} (I : World → Prop) (hk : ∀ w', I w' → K w') (h1 : b = true → ∀ K' : NF 0, (∀ w', I w' → K' w') → A K') (h2 : b = false → ∀ K' : NF 0, (∀ w', I w' → K' w') → B K') : CondP (.bool b) 0 A B K :=
  CondP.of (fun h => h1 h K hk) (fun h => h2 h K hk)
theorem gtr_q {P : Program} {T : TypeId} {x y : Operand} {k : IntKind} {a b : Int} {w : World} {K : Value → Prop} : RunQ P (binSem .gtr T x y (.int k a) (.int k b)) w K = K (.bool (decide (b < a))) := p_gtr.runQ
end Go.V
namespace Go.Proofs.YtmgleeoecdodjaaDoor.Sh
open Go Go.V Go.RowKit

theorem zBook5 : zeroOf Tryd.prog 67 = some (bookCells (.slice none 0 0) (.slice none 0 0) (.slice none 0 0) (.slice none 0 0) (.slice none 0 0)) := zero67
/-- What may be gathered of a database's parts is as bounded as it. -/
theorem gDb_ok {x : DDb} (hx : OkDb x) (ht : OkTot x) {l : List DNode} (hl : ∀ n ∈ l, n ∈ x.nodes) (hn : l.length ≤ 200) : OkDb (gDb l) ∧ ∀ y ∈ (gDb l).msgs, y.sigs.length ≤ 1048576 := by
  have key : ∀ (l : List DNode) (y : DDb), (∀ n ∈ l, n ∈ x.nodes) → (y.sta.names.length ≤ 1073741824 ∧ (∀ s ∈ y.msgs, s ∈ x.msgs) ∧ (∀ s ∈ y.tabs, s ∈ x.tabs)) →
      ((l.foldl gStep y).sta.names.length ≤ 1073741824 ∧ (∀ s ∈ (l.foldl gStep y).msgs, s ∈ x.msgs) ∧ (∀ s ∈ (l.foldl gStep y).tabs, s ∈ x.tabs)) := by
    intro l
    induction l with
    | nil => intro y _ h; exact h
    | cons n l ih =>
      intro y hl h
      refine ih (gStep y n) (fun m hm => hl m (by simp [hm])) ?_
      have hn := hl n (by simp)
      obtain ⟨h1, h2, h3⟩ := h
      cases n with
      | ver v => exact ⟨h1, h2, h3⟩
      | sta s => exact ⟨by have := nodes_sta hn; subst this; exact hx.names, h2, h3⟩
      | msg z =>
        refine ⟨h1, fun s hs => ?_, h3⟩
        rcases List.mem_append.1 (show s ∈ y.msgs ++ [z] from hs) with hs | hs
        · exact h2 s hs
        · simp only [List.mem_singleton] at hs; subst hs; exact nodes_msg_ok hx hn
      | tab z =>
        refine ⟨h1, h2, fun s hs => ?_⟩
        rcases List.mem_append.1 (show s ∈ y.tabs ++ [z] from hs) with hs | hs
        · exact h3 s hs
        · simp only [List.mem_singleton] at hs; subst hs
          unfold DDb.nodes at hn
          split at hn <;> simp at hn <;> exact hn
  obtain ⟨h1, h2, h3⟩ := key l zDb hl ⟨by simp [zDb], by simp [zDb], by simp [zDb]⟩
  have hc := gDb_len l
  refine ⟨⟨h1, by omega, by omega, fun s hs => hx.msg s (h2 s hs), fun s hs => hx.tab s (h3 s hs)⟩, fun y hy => ?_⟩
  have := sumSigs_mem (h2 y hy)
  have := ht.sigs
  omega
theorem zDb_ok : OkDb zDb ∧ ∀ y ∈ zDb.msgs, y.sigs.length ≤ 1048576 := ⟨⟨by simp [zDb], by simp [zDb], by simp [zDb], by simp [zDb], by simp [zDb]⟩, by simp [zDb]⟩
/-- The database, and the error, that Gather answers where the order of kinds says no. -/
def gX (no : Int) (sel : List (Option PNode)) : DDb := if no = 0 then gDb (prt sel) else zDb
def gE (no : Int) (i : Nat) : Value := if no = 0 then .nilIface else flt no i
theorem Gathered.get {sel : List (Option PNode)} {w w' : World} {r : Value} {no : Int} {i : Nat} (h : Gathered sel w r w') (ho : Ord (sel.map okind) no i) :
    Ext w w' ∧ ∃ lo s m t qm qt, r = .tuple #[(gX no sel).agg s m t, gE no i] ∧ w.heap.size ≤ lo ∧ Gat w' lo (gX no sel) s m t qm qt := by
  obtain ⟨no', i', ho', h1, h2⟩ := h.h
  obtain ⟨rfl, rfl⟩ := ho.unique ho'
  refine ⟨h.ext, ?_⟩
  by_cases hz : no = 0
  · obtain ⟨lo, s, m, t, qm, qt, hr, hl, hg⟩ := h2 hz
    rw [prts_all] at hr hg
    exact ⟨lo, s, m, t, qm, qt, by rw [hr]; simp [gX, gE, hz], hl, by simp only [gX, hz, if_true]; exact hg⟩
  · exact ⟨w'.heap.size, .slice none 0 0, .slice none 0 0, .slice none 0 0, [], [], by rw [h1 hz]; simp [gX, gE, hz], h.ext.size, by simp only [gX, hz, if_false]; exact Gat.start (Nat.le_refl _)⟩
theorem Ord.small {ks : List Int} {no : Int} {i : Nat} (h : Ord ks no i) : 0 ≤ no ∧ no ≤ 26 ∧ (no = 0 → i = 0) := by
  cases h with
  | form => exact ⟨by decide, by decide, fun h => by cases h⟩
  | short => exact ⟨by decide, by decide, fun h => by cases h⟩
  | ok => exact ⟨by decide, by decide, fun _ => rfl⟩
theorem atX {ks : List Int} {no : Int} {i : Nat} {w : World} (h : Ord ks no i) (hg : w.cell? ⟨0, 0, none⟩ = some (rty 42)) :
    Does Tryd.prog 9 [gE no i, .int .i64 no, .int .i64 0, .int .i64 (i : Int)] w (Yes w) := by
  obtain ⟨h1, h2, h3⟩ := h.small
  by_cases hz : no = 0
  · subst hz
    rw [h3 rfl]
    exact atNone
  · unfold gE
    rw [if_neg hz]
    exact atFault (by omega) h2 hg
/-- The lists of a gathered database, each its own. -/
structure GDis (lo hi : Nat) (s m t : Value) (qm : List QM) (qt : List QT) : Prop where
  txt : Dis lo (qm.flatMap (·.2.2) ++ [s]) hi
  rows : Dis lo (qt.map (·.2)) hi
  sigs : Dis lo (qm.map (·.2.1)) hi
  msgs : Dis lo [m] hi
  tabs : Dis lo [t] hi
theorem Gat.dis {w : World} {lo : Nat} {x : DDb} {s m t : Value} {qm : List QM} {qt : List QT} (h : Gat w lo x s m t qm qt) : GDis lo w.heap.size s m t qm qt := by
  obtain ⟨mid, i1, i2, i3, i4, i5, i6⟩ := h.inc
  refine ⟨?_, ?_, ?_, ?_, ?_⟩
  · exact Dis.join i4.dis i3.dis (.inr (Nat.le_refl _)) i1 (Nat.le_refl _) (Nat.le_refl _) i2
  · exact i6.dis.mono i1 (Nat.le_refl _)
  · exact i5.dis.mono i1 (Nat.le_refl _)
  · exact (Inc.one (by omega) fun g hg => ⟨h.lms g hg, h.oms.lt hg⟩).dis
  · exact (Inc.one (by omega) fun g hg => ⟨h.lts g hg, h.ots.lt hg⟩).dis
theorem flat_bound {qm : List QM} {k : Nat} (h : ∀ q ∈ qm, q.2.2.length ≤ k) : (qm.flatMap (·.2.2)).length ≤ qm.length * k := by
  induction qm with
  | nil => simp
  | cons q l ih =>
    have h1 := h q (by simp)
    have h2 := ih fun q hq => h q (by simp [hq])
    rw [List.flatMap_cons, List.length_append, List.length_cons, Nat.add_mul]
    omega
/-- The counts of a gathered database. -/
theorem Gat.cnt {w : World} {lo : Nat} {x : DDb} {s m t : Value} {qm : List QM} {qt : List QT} (h : Gat w lo x s m t qm qt) (hm : x.msgs.length ≤ 200) (ht : x.tabs.length ≤ 200) (hs : ∀ y ∈ x.msgs, y.sigs.length ≤ 1048576) :
    qm.length ≤ 200 ∧ qt.length ≤ 200 ∧ (qm.flatMap (·.2.2)).length ≤ 209715200 := by
  have h1 := congrArg List.length h.msgs
  have h2 := congrArg List.length h.tabs
  simp only [List.length_map] at h1 h2
  have h3 : (qm.flatMap (·.2.2)).length ≤ qm.length * 1048576 := flat_bound fun q hq => by
    obtain ⟨a, b, ho⟩ := h.omsg q hq
    rw [ho.len]
    exact hs q.1 (by rw [← h.msgs]; exact List.mem_map.2 ⟨q, hq, rfl⟩)
  have h4 : qm.length * 1048576 ≤ 200 * 1048576 := Nat.mul_le_mul_right _ (by omega)
  exact ⟨by omega, by omega, by omega⟩
theorem gX_ok {x : DDb} (hx : OkDb x) (ht : OkTot x) {no : Int} {sel : List (Option PNode)} (hl : ∀ n ∈ prt sel, n ∈ x.nodes) (hn : sel.length ≤ 200) : OkDb (gX no sel) ∧ (∀ y ∈ (gX no sel).msgs, y.sigs.length ≤ 1048576) ∧ (gX no sel).msgs.length ≤ 200 ∧ (gX no sel).tabs.length ≤ 200 := by
  have hp : (prt sel).length ≤ 200 := by
    unfold prt; rw [List.length_map]
    exact Nat.le_trans (List.length_filterMap_le _ _) hn
  unfold gX
  split
  · obtain ⟨h1, h2⟩ := gDb_ok hx ht hl hp
    have := gDb_len (prt sel)
    exact ⟨h1, h2, by omega, by omega⟩
  · exact ⟨zDb_ok.1, zDb_ok.2, by simp [zDb], by simp [zDb]⟩
/-- What the lists of a gathered database are, as own rows. -/
structure GOwn (w : World) (s m t : Value) (qm : List QM) (qt : List QT) : Prop where
  txt : ∀ v ∈ qm.flatMap (·.2.2) ++ [s], ∃ n xs, Own w 9 1 v n xs ∧ n ≤ 1073741824
  rows : ∀ v ∈ qt.map (·.2), ∃ n xs, Own w 133 2 v n xs ∧ n ≤ 1073741824
  sigs : ∀ v ∈ qm.map (·.2.1), ∃ n xs, Own w 130 19 v n xs ∧ n ≤ 1073741824
  msgs : ∀ v ∈ [m], ∃ n xs, Own w 77 8 v n xs ∧ n ≤ 1073741824
  tabs : ∀ v ∈ [t], ∃ n xs, Own w 81 6 v n xs ∧ n ≤ 1073741824
theorem Gat.own {w : World} {lo : Nat} {x : DDb} {s m t : Value} {qm : List QM} {qt : List QT} (h : Gat w lo x s m t qm qt) (hx : OkDb x) : GOwn w s m t qm qt := by
  have h1 := congrArg List.length h.msgs
  have h2 := congrArg List.length h.tabs
  simp only [List.length_map] at h1 h2
  have n1 := hx.names
  have n2 := hx.msgs
  have n3 := hx.tabs
  have hmm : ∀ q ∈ qm, q.1 ∈ x.msgs := fun q hq => by rw [← h.msgs]; exact List.mem_map.2 ⟨q, hq, rfl⟩
  have htm : ∀ q ∈ qt, q.1 ∈ x.tabs := fun q hq => by rw [← h.tabs]; exact List.mem_map.2 ⟨q, hq, rfl⟩
  refine ⟨fun v hv => ?_, fun v hv => ?_, fun v hv => ?_, fun v hv => ?_, fun v hv => ?_⟩
  · rcases List.mem_append.1 hv with hv | hv
    · obtain ⟨q, hq, hvq⟩ := List.mem_flatMap.1 hv
      obtain ⟨a, b, ho⟩ := h.omsg q hq
      obtain ⟨j, hj⟩ := List.mem_iff_getElem?.1 hvq
      obtain ⟨s', hs'⟩ : ∃ s', q.1.sigs[j]? = some s' := ⟨_, List.getElem?_eq_getElem (by rw [← ho.len]; exact (List.getElem?_eq_some_iff.1 hj).1)⟩
      exact ⟨_, _, ho.texts j s' v hs' hj, (hx.msg q.1 (hmm q hq)).to s' (List.mem_of_getElem? hs')⟩
    · simp only [List.mem_singleton] at hv; subst hv
      exact ⟨_, _, h.names, n1⟩
  · obtain ⟨q, hq, rfl⟩ := List.mem_map.1 hv
    exact ⟨_, _, h.otab q hq, hx.tab q.1 (htm q hq)⟩
  · obtain ⟨q, hq, rfl⟩ := List.mem_map.1 hv
    obtain ⟨a, b, ho⟩ := h.omsg q hq
    exact ⟨_, _, ho.own, (hx.msg q.1 (hmm q hq)).sigs⟩
  · simp only [List.mem_singleton] at hv; subst hv
    exact ⟨_, _, h.oms, by omega⟩
  · simp only [List.mem_singleton] at hv; subst hv
    exact ⟨_, _, h.ots, by omega⟩
end Go.Proofs.YtmgleeoecdodjaaDoor.Sh
