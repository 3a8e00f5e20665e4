/- The walk of the law on the parts of a database. Conditions: lengths up to 2^28. -/
import Derived.Test.YtmgleeoecdodjaaTw
set_option linter.unusedVariables false
set_option linter.unusedSimpArgs false
set_option maxRecDepth 10000
namespace Go.Proofs.Ytmgleeoecdodjaa.Sh
open Go Go.V Go.RowKit

theorem LSig.rsig {M : Mem} {cs : List Value} {x : DSig} (h : LSig M cs x) : RSig M cs x := by
  obtain ⟨v, rfl, h1⟩ := h.h; exact ⟨v, rfl, h1.sl fun _ _ h => h⟩
theorem LMsg.rmsg {M : Mem} {cs : List Value} {x : DMsg} (h : LMsg M cs x) : RMsg M cs x := by
  obtain ⟨v, rfl, h1⟩ := h.h; exact ⟨v, rfl, h1.sl fun _ _ h => LSig.rsig h⟩
theorem LTab.rtab {M : Mem} {cs : List Value} {x : DTab} (h : LTab M cs x) : RTab M cs x := by
  obtain ⟨v, rfl, h1⟩ := h.h; exact ⟨v, rfl, h1.sl fun _ _ h => h⟩
theorem LDb.rdb {M : Mem} {v : Value} {x : DDb} (h : LDb M v x) : RDb M v x := by
  obtain ⟨s, ms, ts, rfl, h1, h2, h3⟩ := h.h
  exact ⟨s, ms, ts, rfl, h1.sl fun _ _ h => h, h2.sl fun _ _ h => LMsg.rmsg h, h3.sl fun _ _ h => LTab.rtab h⟩
theorem ONodes.own {w : World} : ∀ {ns : List PNode} {lo hi : Nat}, ONodes w lo ns hi → (∀ x v tvs, PNode.msg x v tvs ∈ ns → OkMsg x) → (∀ x v, PNode.sta x v ∈ ns → x.names.length ≤ 1073741824) → (∀ x v, PNode.tab x v ∈ ns → x.rows.length ≤ 1073741824) →
    (∀ v ∈ ns.flatMap PNode.texts, ∃ n xs, Own w 9 1 v n xs ∧ n ≤ 1073741824) ∧ (∀ v ∈ ns.flatMap PNode.rows, ∃ n xs, Own w 122 2 v n xs ∧ n ≤ 1073741824) ∧ (∀ v ∈ ns.flatMap PNode.sigs, ∃ n xs, Own w 119 19 v n xs ∧ n ≤ 1073741824)
    ∧ Inc lo (ns.flatMap PNode.texts) hi ∧ Inc lo (ns.flatMap PNode.rows) hi ∧ Inc lo (ns.flatMap PNode.sigs) hi
  | [], _, _, h, _, _, _ => ⟨by simp, by simp, by simp, h, h, h⟩
  | n :: ns, lo, hi, ⟨mid, m1, m2⟩, k1, k2, k3 => by
    obtain ⟨a1, a2, a3, a4, a5, a6⟩ := ONodes.own m2 (fun x v tvs h => k1 x v tvs (by simp [h])) (fun x v h => k2 x v (by simp [h])) (fun x v h => k3 x v (by simp [h]))
    have hle : lo ≤ mid := by
      cases n with
      | ver x => exact m1
      | sta x v => exact m1.2.le
      | msg x v tvs => exact (OMsg.inc m1).le
      | tab x v => exact m1.2.le
    have g1 : (∀ v ∈ n.texts, ∃ n xs, Own w 9 1 v n xs ∧ n ≤ 1073741824) ∧ (∀ v ∈ n.rows, ∃ n xs, Own w 122 2 v n xs ∧ n ≤ 1073741824) ∧ (∀ v ∈ n.sigs, ∃ n xs, Own w 119 19 v n xs ∧ n ≤ 1073741824) ∧ Inc lo n.texts mid ∧ Inc lo n.rows mid ∧ Inc lo n.sigs mid := by
      cases n with
      | ver x => exact ⟨by simp [PNode.texts], by simp [PNode.rows], by simp [PNode.sigs], hle, hle, hle⟩
      | sta x v =>
        refine ⟨fun u hu => ?_, by simp [PNode.rows], by simp [PNode.sigs], m1.2, hle, hle⟩
        simp only [PNode.texts, List.mem_singleton] at hu
        subst hu
        exact ⟨_, _, m1.1, k2 x u (by simp)⟩
      | msg x v tvs =>
        have hx := k1 x v tvs (by simp)
        obtain ⟨md, i1, i2, i3⟩ := OMsg.inc m1
        refine ⟨fun u hu => ?_, by simp [PNode.rows], fun u hu => ?_, i3.mono i1 (Nat.le_refl _), hle, Inc.one hle fun g hg => by have := i2 g hg; have := i3.le; omega⟩
        · obtain ⟨i, hi⟩ := List.getElem?_of_mem (show u ∈ tvs from hu)
          obtain ⟨s, hs⟩ : ∃ s, x.sigs[i]? = some s := ⟨_, List.getElem?_eq_getElem (by rw [← OMsg.len m1]; exact (List.getElem?_eq_some_iff.1 hi).1)⟩
          exact ⟨_, _, OMsg.texts m1 i s u hs hi, hx.to s (List.mem_of_getElem? hs)⟩
        · simp only [PNode.sigs, List.mem_singleton] at hu
          subst hu
          exact ⟨_, _, OMsg.own m1, hx.sigs⟩
      | tab x v =>
        refine ⟨by simp [PNode.texts], fun u hu => ?_, by simp [PNode.sigs], hle, m1.2, hle⟩
        simp only [PNode.rows, List.mem_singleton] at hu
        subst hu
        exact ⟨_, _, m1.1, k3 x u (by simp)⟩
    obtain ⟨b1, b2, b3, b4, b5, b6⟩ := g1
    simp only [List.flatMap_cons]
    exact ⟨fun v hv => (List.mem_append.1 hv).elim (b1 v) (a1 v), fun v hv => (List.mem_append.1 hv).elim (b2 v) (a2 v), fun v hv => (List.mem_append.1 hv).elim (b3 v) (a3 v), b4.append a4, b5.append a5, b6.append a6⟩
end Go.Proofs.Ytmgleeoecdodjaa.Sh
