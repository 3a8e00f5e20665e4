/- The walk of the law on finding messages by name. Conditions: lengths up to 2^28. -/
import Derived.Test.YtmgleeoecdodjaaTn
set_option linter.unusedVariables false
set_option linter.unusedSimpArgs false
set_option maxRecDepth 10000
namespace Go.Proofs.Ytmgleeoecdodjaa.Sh
open Go Go.V Go.RowKit

def sumSigs (l : List DMsg) : Nat := (l.map (·.sigs.length)).sum
structure OkTot (x : DDb) : Prop where
  msgs : x.msgs.length ≤ 268435456
  tabs : x.tabs.length ≤ 268435456
  sigs : sumSigs x.msgs ≤ 268435456
theorem sumSigs_append (a b : List DMsg) : sumSigs (a ++ b) = sumSigs a + sumSigs b := by simp [sumSigs]
theorem sumSigs_mem {l : List DMsg} {y : DMsg} (h : y ∈ l) : y.sigs.length ≤ sumSigs l := by
  induction l with
  | nil => simp at h
  | cons z l ih =>
    rw [show z :: l = [z] ++ l from rfl, sumSigs_append]
    rcases List.mem_cons.1 h with rfl | h
    · simp [sumSigs]
    · have := ih h; omega
theorem findMsg_len (l : List DMsg) (name : ByteArray) : (findMsg l name).2.sigs.length ≤ sumSigs l ∧ ((∀ y ∈ l, OkMsg y) → OkMsg (findMsg l name).2) := by
  unfold findMsg
  cases h : l.find? (nameIs name) with
  | none => exact ⟨by simp [zMsg], fun _ => okZ⟩
  | some y => exact ⟨sumSigs_mem (List.mem_of_find?_eq_some h), fun hk => hk y (List.mem_of_find?_eq_some h)⟩
/-- The book and what it holds: rows of their own, made one after the other. -/
structure BkSt (w : World) (kb lo hi : Nat) (ts rs ss : List Value) : Prop where
  book : BookAt w kb ts rs ss
  tsO : ∀ (j : Nat) (v : Value), ts[j]? = some v → ∃ n xs, Own w 9 1 v n xs ∧ n ≤ 1073741824
  rsO : ∀ (j : Nat) (v : Value), rs[j]? = some v → ∃ n xs, Own w 122 2 v n xs ∧ n ≤ 1073741824
  ssO : ∀ (j : Nat) (v : Value), ss[j]? = some v → ∃ n xs, Own w 119 19 v n xs ∧ n ≤ 1073741824
  inc1 : Inc lo ts hi
  inc2 : Inc lo rs hi
  inc3 : Inc lo ss hi
theorem BkSt.ext {w w' : World} {kb lo hi : Nat} {ts rs ss : List Value} (h : BkSt w kb lo hi ts rs ss) (e : Ext w w') : BkSt w' kb lo hi ts rs ss :=
  ⟨h.book.ext e, fun j v hv => by obtain ⟨n, xs, h1, h2⟩ := h.tsO j v hv; exact ⟨n, xs, h1.ext e, h2⟩, fun j v hv => by obtain ⟨n, xs, h1, h2⟩ := h.rsO j v hv; exact ⟨n, xs, h1.ext e, h2⟩,
    fun j v hv => by obtain ⟨n, xs, h1, h2⟩ := h.ssO j v hv; exact ⟨n, xs, h1.ext e, h2⟩, h.inc1, h.inc2, h.inc3⟩
theorem BkSt.push {w w' : World} {kb lo hi a b : Nat} {ts rs ss tvs : List Value} {y : DMsg} {v : Value} (h : BkSt w kb lo hi ts rs ss) (ho : OMsg w a b y v tvs) (hx : OkMsg y) (ha : hi ≤ a) (hb : Booked w kb (ts ++ tvs) rs (ss ++ [v]) w') : BkSt w' kb lo b (ts ++ tvs) rs (ss ++ [v]) := by
  have hk := hb.keep
  obtain ⟨mid, m1, m2, m3⟩ := ho.inc
  have hab : a ≤ b := Nat.le_trans m1 m3.le
  refine ⟨hb.book, fun j u hu => ?_, fun j u hu => ?_, fun j u hu => ?_, ?_, ?_, ?_⟩
  · by_cases hj : j < ts.length
    · rw [List.getElem?_append_left hj] at hu
      obtain ⟨n, xs, h1, h2⟩ := h.tsO j u hu
      exact ⟨n, xs, h1.keepT hk (by decide), h2⟩
    · rw [List.getElem?_append_right (by omega)] at hu
      obtain ⟨s, hs⟩ : ∃ s, y.sigs[j - ts.length]? = some s := ⟨_, List.getElem?_eq_getElem (by rw [← ho.len]; exact (List.getElem?_eq_some_iff.1 hu).1)⟩
      exact ⟨_, _, (ho.texts _ s u hs hu).keepT hk (by decide), hx.to s (List.mem_of_getElem? hs)⟩
  · obtain ⟨n, xs, h1, h2⟩ := h.rsO j u hu
    exact ⟨n, xs, h1.keepT hk (by decide), h2⟩
  · by_cases hj : j < ss.length
    · rw [List.getElem?_append_left hj] at hu
      obtain ⟨n, xs, h1, h2⟩ := h.ssO j u hu
      exact ⟨n, xs, h1.keepT hk (by decide), h2⟩
    · rw [List.getElem?_append_right (by omega)] at hu
      have := List.mem_of_getElem? hu
      simp only [List.mem_singleton] at this
      subst this
      exact ⟨_, _, ho.own.keepT hk (by decide), hx.sigs⟩
  · exact (h.inc1.mono (Nat.le_refl _) ha).append (m3.mono m1 (Nat.le_refl _))
  · exact h.inc2.mono (Nat.le_refl _) (Nat.le_trans ha hab)
  · exact (h.inc3.mono (Nat.le_refl _) ha).append (Inc.one hab fun g hg => by have := m2 g hg; have := m3.le; omega)
theorem BkSt.apart {w : World} {kb lo hi : Nat} {ts rs ss : List Value} (h : BkSt w kb lo hi ts rs ss) (hlo : lo ≤ w.heap.size) (b1 : ts.length ≤ 1073741824) (b2 : rs.length ≤ 1073741824) (b3 : ss.length ≤ 1073741824) :
    Does Try.prog 10 [.pointer (some ⟨kb, 0, none⟩)] w (Aparted AT lo w) :=
  Go.Proofs.Ytmgleeoecdodjaa.Sh.apart h.book (fun j v hv => by obtain ⟨n, xs, h1, _⟩ := h.tsO j v hv; exact ⟨n, xs, h1⟩) (fun j v hv => by obtain ⟨n, xs, h1, _⟩ := h.rsO j v hv; exact ⟨n, xs, h1⟩) (fun j v hv => by obtain ⟨n, xs, h1, _⟩ := h.ssO j v hv; exact ⟨n, xs, h1⟩)
    h.inc1 h.inc2 h.inc3 hlo b1 b2 b3 (fun j v hv => by obtain ⟨n, xs, h1, h2⟩ := h.tsO j v hv; rw [h1.sLen]; exact h2) (fun j v hv => by obtain ⟨n, xs, h1, h2⟩ := h.rsO j v hv; rw [h1.sLen]; exact h2) (fun j v hv => by obtain ⟨n, xs, h1, h2⟩ := h.ssO j v hv; rw [h1.sLen]; exact h2)
theorem OMsg.below {w w' : World} {lo hi B : Nat} {x : DMsg} {v : Value} {tvs : List Value} (h : OMsg w lo hi x v tvs) (e : Below B w w') (hb : hi ≤ B) : OMsg w' lo hi x v tvs := by
  obtain ⟨mid, m1, m2, m3⟩ := h.inc
  refine ⟨h.len, h.own.keep fun k hk => e.block k (by have := m2 k hk; have := m3.le; omega), fun j s tv h1 h2 => (h.texts j s tv h1 h2).keep fun k hk => e.block k (by have := m3.get h2 k hk; omega), h.inc⟩
theorem ONode.below {w w' : World} {lo hi B : Nat} {n : PNode} (h : ONode w lo hi n) (e : Below B w w') (hb : hi ≤ B) : ONode w' lo hi n := by
  cases n with
  | ver x => exact h
  | sta x v => exact ⟨h.1.keep fun k hk => e.block k (by have := h.2.get (i := 0) (v := v) rfl k hk; omega), h.2⟩
  | msg x v tvs => exact OMsg.below h e hb
  | tab x v => exact ⟨h.1.keep fun k hk => e.block k (by have := h.2.get (i := 0) (v := v) rfl k hk; omega), h.2⟩
theorem ONodes.le {w : World} : ∀ {ns : List PNode} {lo hi : Nat}, ONodes w lo ns hi → lo ≤ hi
  | [], _, _, h => h
  | n :: _, lo, _, ⟨mid, m1, m2⟩ => by
    have h2 := m2.le
    have h1 : lo ≤ mid := by
      cases n with
      | ver x => exact m1
      | sta x v => exact m1.2.le
      | msg x v tvs => exact (OMsg.inc m1).le
      | tab x v => exact m1.2.le
    exact Nat.le_trans h1 h2
theorem ONodes.below {w w' : World} {B : Nat} (e : Below B w w') : ∀ {ns : List PNode} {lo hi : Nat}, ONodes w lo ns hi → hi ≤ B → ONodes w' lo ns hi
  | [], _, _, h, _ => h
  | _ :: _, _, _, ⟨mid, m1, m2⟩, hb => ⟨mid, m1.below e (Nat.le_trans m2.le hb), m2.below e hb⟩
theorem nodes_msg_ok {x : DDb} (hx : OkDb x) {y : DMsg} (h : DNode.msg y ∈ x.nodes) : y ∈ x.msgs := by
  unfold DDb.nodes at h
  split at h <;> simp at h <;> exact h
theorem sum_take (l : List DMsg) (k : Nat) : sumSigs (l.take k) ≤ sumSigs l := by
  conv => rhs; rw [← List.take_append_drop k l, sumSigs_append]
  exact Nat.le_add_right _ _
theorem zBook : zeroOf Try.prog 54 = some (bookCells (.slice none 0 0) (.slice none 0 0) (.slice none 0 0)) := zero54
end Go.Proofs.Ytmgleeoecdodjaa.Sh
