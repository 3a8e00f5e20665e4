/- Bounds on a database; parts, kept where nothing below their rows' end has turned. Conditions: none. -/
import Derived.Test.YtmgleeoecdodjaaDoorTg
set_option linter.unusedVariables false
set_option linter.unusedSimpArgs false
set_option maxRecDepth 10000
namespace Go.Proofs.YtmgleeoecdodjaaDoor.Sh
open Go Go.V Go.RowKit

def sumSigs (l : List DMsg) : Nat := (l.map (·.sigs.length)).sum
structure OkTot (x : DDb) : Prop where
  msgs : x.msgs.length ≤ 1048576
  tabs : x.tabs.length ≤ 1048576
  sigs : sumSigs x.msgs ≤ 1048576
theorem sumSigs_append (a b : List DMsg) : sumSigs (a ++ b) = sumSigs a + sumSigs b := by simp [sumSigs]
theorem sumSigs_mem {l : List DMsg} {y : DMsg} (h : y ∈ l) : y.sigs.length ≤ sumSigs l := by
  induction l with
  | nil => simp at h
  | cons z l ih =>
    rw [show z :: l = [z] ++ l from rfl, sumSigs_append]
    rcases List.mem_cons.1 h with rfl | h
    · simp [sumSigs]
    · have := ih h; omega
theorem OMsg.below {w w' : World} {lo hi B : Nat} {x : DMsg} {v : Value} {tvs : List Value} (h : OMsg w lo hi x v tvs) (e : Below B w w') (hb : hi ≤ B) : OMsg w' lo hi x v tvs := by
  obtain ⟨mid, m1, m2, m3⟩ := h.inc
  refine ⟨h.len, h.own.keep fun k hk => e.block k (by have := m2 k hk; have := m3.le; omega), fun j s tv h1 h2 => (h.texts j s tv h1 h2).keep fun k hk => e.block k (by have := m3.get h2 k hk; omega), h.inc⟩
theorem ONode.below {w w' : World} {lo hi B : Nat} {n : PNode} (h : ONode w lo hi n) (e : Below B w w') (hb : hi ≤ B) : ONode w' lo hi n := by
  cases n with
  | ver x => exact h
  | sta x v => exact ⟨h.1.keep fun k hk => e.block k (by have := h.2.get (i := 0) (v := v) rfl k hk; omega), h.2⟩
  | msg x v tvs => exact OMsg.below h e hb
  | tab x v => exact ⟨h.1.keep fun k hk => e.block k (by have := h.2.get (i := 0) (v := v) rfl k hk; omega), h.2⟩
theorem ONodes.le {w : World} : ∀ {ns : List PNode} {lo hi : Nat}, ONodes w lo ns hi → lo ≤ hi
  | [], _, _, h => h
  | n :: _, lo, _, ⟨mid, m1, m2⟩ => by
    have h2 := m2.le
    have h1 : lo ≤ mid := by
      cases n with
      | ver x => exact m1
      | sta x v => exact m1.2.le
      | msg x v tvs => exact (OMsg.inc m1).le
      | tab x v => exact m1.2.le
    exact Nat.le_trans h1 h2
theorem ONodes.below {w w' : World} {B : Nat} (e : Below B w w') : ∀ {ns : List PNode} {lo hi : Nat}, ONodes w lo ns hi → hi ≤ B → ONodes w' lo ns hi
  | [], _, _, h, _ => h
  | _ :: _, _, _, ⟨mid, m1, m2⟩, hb => ⟨mid, m1.below e (Nat.le_trans m2.le hb), m2.below e hb⟩
theorem nodes_msg_ok {x : DDb} (hx : OkDb x) {y : DMsg} (h : DNode.msg y ∈ x.nodes) : y ∈ x.msgs := by
  unfold DDb.nodes at h
  split at h <;> simp at h <;> exact h
theorem sum_take (l : List DMsg) (k : Nat) : sumSigs (l.take k) ≤ sumSigs l := by
  conv => rhs; rw [← List.take_append_drop k l, sumSigs_append]
  exact Nat.le_add_right _ _
end Go.Proofs.YtmgleeoecdodjaaDoor.Sh
