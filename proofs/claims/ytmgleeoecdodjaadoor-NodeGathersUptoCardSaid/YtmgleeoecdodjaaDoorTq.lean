/- How a database is read from memory by the row's own reading. Conditions: none. -/
import Derived.Test.YtmgleeoecdodjaaDoorToo
import Derived.Test.YtmgleeoecdodjaaDoorRows
import Derived.WalkKit
import Derived.ProofKit
import Derived.OpenShut
import Derived.JoinedCond
import Derived.Deep.Slices
set_option linter.unusedVariables false
set_option linter.unusedSimpArgs false
set_option maxRecDepth 10000
namespace Go.Proofs.YtmgleeoecdodjaaDoor.Sh
open Go Go.V Go.RowKit

theorem bulk_one {H : Type} (d : DataW H) : 1 ≤ Rows.uptoBulk d := by
  cases d with
  | lit l => cases l <;> simp [Rows.uptoBulk]
  | nil => simp [Rows.uptoBulk]
  | ptr d => simp [Rows.uptoBulk]
  | slice elems spare => simp [Rows.uptoBulk]
  | agg parts => simp [Rows.uptoBulk]
  | iface t d => simp [Rows.uptoBulk]
  | map entries => simp [Rows.uptoBulk]
  | held h => simp [Rows.uptoBulk]
theorem bulk_all {H : Type} (l : List (DataW H)) : Rows.uptoBulkAll l = (l.map Rows.uptoBulk).sum := by
  induction l with
  | nil => simp [Rows.uptoBulkAll]
  | cons x r ih => simp [Rows.uptoBulkAll, ih]
theorem sum_mem {l : List Nat} {a : Nat} (h : a ∈ l) : a ≤ l.sum := by
  induction l with
  | nil => simp at h
  | cons b l ih =>
    simp only [List.sum_cons]
    rcases List.mem_cons.1 h with rfl | h
    · omega
    · have := ih h; omega
theorem sum_len {l : List Nat} (h : ∀ a ∈ l, 1 ≤ a) : l.length ≤ l.sum := by
  induction l with
  | nil => simp
  | cons b l ih =>
    have := h b (by simp)
    have := ih fun a ha => h a (by simp [ha])
    simp only [List.sum_cons, List.length_cons]; omega

variable {H : Type} {enc : TypeId × Value → H} {W : World} {base : Nat} {spare : Nat → Bool} {held : Bool}
theorem st_field {t ft off c i fuel : Nat} {cs : List Value} {x : DataW H × List MemPlace} (hu : Tryd.prog.underlying t = some (.struct (Tryd.prog.fieldsOf t))) (hf : (Tryd.prog.fieldsOf t)[i]?.map (fun f => (f.type, f.offset)) = some (ft, off)) (hc : Tryd.prog.cellsOf ft = c)
    (h : DataW.trod enc Tryd.prog W base spare held fuel t cs = some x) : ∃ n y, DataW.trod enc Tryd.prog W base spare held n ft ((cs.drop off).take c) = some y ∧ Rows.uptoBulk y.1 + 1 ≤ Rows.uptoBulk x.1 := by
  obtain ⟨xs, n, _, rfl, _, hl, hget⟩ := DataW.trod_struct hu h
  obtain ⟨f, hf1, hf2⟩ := Option.map_eq_some_iff.1 hf
  injection hf2 with e1 e2
  have := hget i f hf1
  have hi : i < xs.length := by rw [hl]; exact (Array.getElem?_eq_some_iff.1 hf1).1
  rw [List.getElem?_eq_getElem hi, e1, e2, hc] at this
  refine ⟨n, _, this, ?_⟩
  have hm : Rows.uptoBulk xs[i].1 ∈ (xs.map (·.1)).map Rows.uptoBulk := by
    rw [List.map_map]
    exact List.mem_map.2 ⟨xs[i], List.getElem_mem hi, rfl⟩
  simp only [Rows.uptoBulk, bulk_all]
  have := sum_mem hm
  omega
theorem st_len {t c fuel : Nat} {cs : List Value} {x : DataW H × List MemPlace} (hu : Tryd.prog.underlying t = some (.struct (Tryd.prog.fieldsOf t))) (hc : Tryd.prog.cellsOf t = c) (h : DataW.trod enc Tryd.prog W base spare held fuel t cs = some x) : cs.length = c := by
  obtain ⟨xs, n, _, rfl, hl, _⟩ := DataW.trod_struct hu h
  rw [hl, hc]
theorem rdInt {t fuel : Nat} {k : IntKind} {a : Value} {y : DataW H × List MemPlace} (ht : Tryd.prog.underlying t = some (.int k)) (h : DataW.trod enc Tryd.prog W base spare held fuel t [a] = some y) : ∃ n, a = .int k n := by
  obtain ⟨n, h1, _⟩ := DataW.trod_int ht h
  injection h1 with h1
  exact ⟨n, h1⟩
theorem rdBool {t fuel : Nat} {a : Value} {y : DataW H × List MemPlace} (ht : Tryd.prog.underlying t = some .bool) (h : DataW.trod enc Tryd.prog W base spare held fuel t [a] = some y) : ∃ n, a = .bool n := by
  obtain ⟨n, h1, _⟩ := DataW.trod_bool ht h
  injection h1 with h1
  exact ⟨n, h1⟩
theorem rdStr {t fuel : Nat} {a : Value} {y : DataW H × List MemPlace} (ht : Tryd.prog.underlying t = some .string) (h : DataW.trod enc Tryd.prog W base spare held fuel t [a] = some y) : ∃ n, a = .string n := by
  obtain ⟨n, h1, _⟩ := DataW.trod_string ht h
  injection h1 with h1
  exact ⟨n, h1⟩
theorem rdCells {a : Addr} {n : Nat} {cs : List Value} (h : W.cells? base a n = some cs) : cs.length = n ∧ ∀ j u, cs[j]? = some u → W.cell? (a.add j) = some u := by
  unfold World.cells? at h
  split at h
  · have hl := mapM_some_length h
    rw [List.length_range] at hl
    refine ⟨hl, fun j u hj => ?_⟩
    have hj' := (List.getElem?_eq_some_iff.1 hj).1
    have := mapM_some_get h j j (List.getElem?_range (by omega))
    rw [this]; exact hj
  · cases h
/-- A slice, read: a list of what its elements read as, and what they hold together. -/
theorem rdSlice {α : Type} {t e sz fuel : Nat} {v : Value} {d : DataW H} {ps : List MemPlace} {R : List Value → α → Prop} {Q : α → Nat → Prop} (ht : Tryd.prog.underlying t = some (.slice e)) (hc : Tryd.prog.cellsOf e = sz) (hsz : 0 < sz)
    (hel : ∀ n cs (x : DataW H × List MemPlace), DataW.trod enc Tryd.prog W base spare held n e cs = some x → ∃ a, R cs a ∧ Q a (Rows.uptoBulk x.1))
    (h : DataW.trod enc Tryd.prog W base spare held fuel t [v] = some (d, ps)) :
    ∃ q : List (α × Nat), Sl (memW W) sz R v (q.map (·.1)) ∧ (∀ p ∈ q, Q p.1 p.2 ∧ 1 ≤ p.2) ∧ (q.map (·.2)).sum + 1 ≤ Rows.uptoBulk d := by
  rcases Go.Deep.open_slice ht h with ⟨h1, h2⟩ | ⟨a, len, cap, m, n, D, Pl, h1, hb, hl, hm, hmm, h2, hx⟩
  · injection h1 with h1
    injection h2 with h2 _
    subst h1; subst h2
    exact ⟨[], Sl.nil _ _ _ _ _, by simp, by simp [Rows.uptoBulk]⟩
  · injection h1 with h1
    injection h2 with h2 _
    subst h1; subst h2
    have hlm : len ≤ m := by rw [hmm]; split <;> omega
    have h4 : ∀ i : Fin len, ∃ b : α, ∃ cs', W.cells? base (a.add (i.1 * sz)) sz = some cs' ∧ R cs' b ∧ Q b (Rows.uptoBulk (D i.1)) := fun i => by
      obtain ⟨cs', h3, h4⟩ := hx i.1 (by omega)
      rw [hc] at h3
      obtain ⟨b, hb1, hb2⟩ := hel _ _ _ h4
      exact ⟨b, cs', h3, hb1, hb2⟩
    obtain ⟨f, hf⟩ := Classical.axiomOfChoice h4
    have hlen : (List.ofFn fun i : Fin len => (f i, Rows.uptoBulk (D i.1))).length = len := by simp
    refine ⟨List.ofFn fun i : Fin len => (f i, Rows.uptoBulk (D i.1)), ⟨⟨some a, cap, by simp, by simpa using hl, fun i x hi => ?_⟩⟩, ?_, ?_⟩
    · rw [List.getElem?_map] at hi
      obtain ⟨y, hy, rfl⟩ := Option.map_eq_some_iff.1 hi
      obtain ⟨hi1, hi2⟩ := List.getElem?_eq_some_iff.1 hy
      rw [List.length_ofFn] at hi1
      rw [List.getElem_ofFn] at hi2
      subst hi2
      have hsp : a.spot = none := by
        obtain ⟨cs0, h0, _⟩ := hf ⟨0, by omega⟩
        obtain ⟨h01, h02⟩ := rdCells h0
        have h03 := h02 0 cs0[0] (List.getElem?_eq_getElem (by omega))
        simp only [Nat.zero_mul, Addr.add, if_true] at h03
        cases hs : a.spot with
        | none => rfl
        | some q =>
          unfold World.cell? at h03
          split at h03 <;> simp [hs] at h03
      obtain ⟨blk, off, spot⟩ := a
      simp only at hsp
      subst hsp
      obtain ⟨cs', h0, hR, _⟩ := hf ⟨i, hi1⟩
      obtain ⟨h01, h02⟩ := rdCells h0
      refine ⟨blk, off, cs', rfl, h01, fun j u hj => ?_, hR⟩
      have := h02 j u hj
      rw [Addr.add_lit, Addr.add_lit] at this
      exact this
    · intro p hp
      obtain ⟨i, rfl⟩ := List.mem_ofFn.1 hp
      obtain ⟨cs', _, _, hQ⟩ := hf i
      exact ⟨hQ, bulk_one _⟩
    · simp only [Rows.uptoBulk, bulk_all]
      have : ((List.ofFn fun i : Fin len => (f i, Rows.uptoBulk (D i.1))).map (·.2)) = ((List.range len).map D).map Rows.uptoBulk := by
        apply List.ext_getElem
        · simp
        · intro i h1 h2; simp
      rw [this]; omega
end Go.Proofs.YtmgleeoecdodjaaDoor.Sh
