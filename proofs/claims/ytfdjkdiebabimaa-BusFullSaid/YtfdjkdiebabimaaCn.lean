/- How rules and scripts are read from memory by the row's own reading. Conditions: none. -/
import Derived.Test.YtfdjkdiebabimaaCm
import Derived.Test.YtfdjkdiebabimaaRows
import Derived.WalkKit
import Derived.ProofKit
import Derived.OpenShut
import Derived.JoinedCond
import Derived.JoinedOf
import Derived.SizedLaws
import Derived.Deep.Slices
set_option linter.unusedVariables false
set_option linter.unusedSimpArgs false
set_option maxRecDepth 10000
namespace Go.Proofs.Ytfdjkdiebabimaa.Sh
open Go Go.V Go.RowKit Go.Proofs.Ytfdjkdiebabimaa.Bp

/-- What is read weighs no more than what may be read. -/
def Fit {H : Type} (t : TypeId) (d : DataW H) : Prop := ∀ n ∈ d.weights Try.prog t, n ≤ reachBytes
theorem fitAll {H : Type} (e : TypeId) : ∀ (l : List (DataW H)) (d : DataW H), d ∈ l → ∀ n ∈ d.weights Try.prog e, n ∈ DataW.weightsAll Try.prog e l
  | x :: l, d, hd, n, hn => by
    simp only [DataW.weightsAll, List.mem_append]
    rcases List.mem_cons.1 hd with rfl | hd
    · exact .inl hn
    · exact .inr (fitAll e l d hd n hn)
theorem Fit.elem {H : Type} {t e : TypeId} {l sp : List (DataW H)} {d : DataW H} (ht : Try.prog.underlying t = some (.slice e)) (h : Fit t (.slice l sp)) (hd : d ∈ l) : Fit e d := fun n hn =>
  h n (by simp only [DataW.weights, ht, List.mem_cons, List.mem_append]; exact .inr (.inl (fitAll e l d hd n hn)))
theorem Fit.len {H : Type} {t e : TypeId} {l sp : List (DataW H)} (ht : Try.prog.underlying t = some (.slice e)) (h : Fit t (.slice l sp)) : l.length * Try.prog.bytesOf e ≤ reachBytes := by
  have := h ((l.length + sp.length) * Try.prog.bytesOf e) (by simp [DataW.weights, ht])
  exact Nat.le_trans (Nat.mul_le_mul_right _ (Nat.le_add_right _ _)) this

variable {H : Type} {enc : TypeId × Value → H} {W : World} {base : Nat} {spare : Nat → Bool} {held : Bool}
theorem st_field {t ft off c i fuel : Nat} {cs : List Value} {x : DataW H × List MemPlace} (hu : Try.prog.underlying t = some (.struct (Try.prog.fieldsOf t))) (hf : (Try.prog.fieldsOf t)[i]?.map (fun f => (f.type, f.offset)) = some (ft, off)) (hc : Try.prog.cellsOf ft = c)
    (h : DataW.trod enc Try.prog W base spare held fuel t cs = some x) (hw : Fit t x.1) : ∃ n y, DataW.trod enc Try.prog W base spare held n ft ((cs.drop off).take c) = some y ∧ Fit ft y.1 := by
  obtain ⟨xs, n, _, rfl, _, hl, hget⟩ := DataW.trod_struct hu h
  obtain ⟨f, hf1, hf2⟩ := Option.map_eq_some_iff.1 hf
  injection hf2 with e1 e2
  have := hget i f hf1
  have hi : i < xs.length := by rw [hl]; exact (Array.getElem?_eq_some_iff.1 hf1).1
  rw [List.getElem?_eq_getElem hi, e1, e2, hc] at this
  refine ⟨n, _, this, fun k hk => hw k ?_⟩
  simp only [DataW.weights, hu]
  refine DataW.weights_mem_each (j := i) (t := ft) (d := xs[i].1) ?_ (by simp [hi]) k hk
  rw [List.getElem?_map, Array.getElem?_toList, hf1, Option.map_some, e1]
theorem st_len {t c fuel : Nat} {cs : List Value} {x : DataW H × List MemPlace} (hu : Try.prog.underlying t = some (.struct (Try.prog.fieldsOf t))) (hc : Try.prog.cellsOf t = c) (h : DataW.trod enc Try.prog W base spare held fuel t cs = some x) : cs.length = c := by
  obtain ⟨xs, n, _, rfl, hl, _⟩ := DataW.trod_struct hu h
  rw [hl, hc]
theorem rdInt {t fuel : Nat} {k : IntKind} {a : Value} {y : DataW H × List MemPlace} (ht : Try.prog.underlying t = some (.int k)) (h : DataW.trod enc Try.prog W base spare held fuel t [a] = some y) : ∃ n, a = .int k n ∧ k.min ≤ n ∧ n ≤ k.max := by
  obtain ⟨n, h1, _, h2⟩ := DataW.trod_int ht h
  injection h1 with h1
  simp [Lit.wf] at h2
  exact ⟨n, h1, h2.1, h2.2⟩
theorem rdNat {t fuel : Nat} {k : IntKind} {a : Value} {y : DataW H × List MemPlace} {N : Nat} (ht : Try.prog.underlying t = some (.int k)) (hk : k.min = 0) (hN : k.max = (N : Int)) (h : DataW.trod enc Try.prog W base spare held fuel t [a] = some y) : ∃ n : Nat, a = .int k (n : Int) ∧ n ≤ N := by
  obtain ⟨n, h1, h2, h3⟩ := rdInt ht h
  refine ⟨n.toNat, ?_, by omega⟩
  rw [h1]; congr 1; omega
theorem rdBool {t fuel : Nat} {a : Value} {y : DataW H × List MemPlace} (ht : Try.prog.underlying t = some .bool) (h : DataW.trod enc Try.prog W base spare held fuel t [a] = some y) : ∃ n, a = .bool n := by
  obtain ⟨n, h1, _⟩ := DataW.trod_bool ht h
  injection h1 with h1
  exact ⟨n, h1⟩
theorem rdCells {a : Addr} {n : Nat} {cs : List Value} (h : W.cells? base a n = some cs) : cs.length = n ∧ ∀ j u, cs[j]? = some u → W.cell? (a.add j) = some u := by
  unfold World.cells? at h
  split at h
  · have hl := mapM_some_length h
    rw [List.length_range] at hl
    refine ⟨hl, fun j u hj => ?_⟩
    have hj' := (List.getElem?_eq_some_iff.1 hj).1
    have := mapM_some_get h j j (List.getElem?_range (by omega))
    rw [this]; exact hj
  · cases h
/-- A slice, read: a list of what its elements read as. -/
theorem rdSlice {α : Type} {t e sz fuel : Nat} {v : Value} {y : DataW H × List MemPlace} {R : List Value → α → Prop} (ht : Try.prog.underlying t = some (.slice e)) (hc : Try.prog.cellsOf e = sz) (hsz : 0 < sz)
    (hel : ∀ n cs (x : DataW H × List MemPlace), DataW.trod enc Try.prog W base spare held n e cs = some x → Fit e x.1 → ∃ a, R cs a)
    (h : DataW.trod enc Try.prog W base spare held fuel t [v] = some y) (hw : Fit t y.1) :
    ∃ q : List α, Sl (memW W) sz R v q ∧ q.length * Try.prog.bytesOf e ≤ reachBytes := by
  rcases Go.Deep.open_slice ht h with ⟨h1, h2⟩ | ⟨a, len, cap, m, n, D, Pl, h1, hb, hl, hm, hmm, h2, hx⟩
  · injection h1 with h1
    subst h1
    exact ⟨[], Sl.nil _ _ _ _ _, by simp⟩
  · injection h1 with h1
    subst h1; subst h2
    have hlm : len ≤ m := by rw [hmm]; split <;> omega
    have h4 : ∀ i : Fin len, ∃ b : α, ∃ cs', W.cells? base (a.add (i.1 * sz)) sz = some cs' ∧ R cs' b := fun i => by
      obtain ⟨cs', h3, h4⟩ := hx i.1 (by omega)
      rw [hc] at h3
      obtain ⟨b, hb1⟩ := hel _ _ _ h4 (hw.elem ht (List.mem_map.2 ⟨i.1, List.mem_range.2 i.2, rfl⟩))
      exact ⟨b, cs', h3, hb1⟩
    obtain ⟨f, hf⟩ := Classical.axiomOfChoice h4
    have hlen := hw.len ht
    rw [List.length_map, List.length_range] at hlen
    refine ⟨List.ofFn f, ⟨⟨some a, cap, by simp, by simpa using hl, fun i x hi => ?_⟩⟩, by simpa using hlen⟩
    obtain ⟨hi1, hi2⟩ := List.getElem?_eq_some_iff.1 hi
    rw [List.length_ofFn] at hi1
    rw [List.getElem_ofFn] at hi2
    subst hi2
    have hsp : a.spot = none := by
      obtain ⟨cs0, h0, _⟩ := hf ⟨0, by omega⟩
      obtain ⟨h01, h02⟩ := rdCells h0
      have h03 := h02 0 cs0[0] (List.getElem?_eq_getElem (by omega))
      simp only [Nat.zero_mul, Addr.add, if_true] at h03
      cases hs : a.spot with
      | none => rfl
      | some q =>
        unfold World.cell? at h03
        split at h03 <;> simp [hs] at h03
    obtain ⟨blk, off, spot⟩ := a
    simp only at hsp
    subst hsp
    obtain ⟨cs', h0, hR⟩ := hf ⟨i, hi1⟩
    obtain ⟨h01, h02⟩ := rdCells h0
    refine ⟨blk, off, cs', rfl, h01, fun j u hj => ?_, hR⟩
    have := h02 j u hj
    rw [Addr.add_lit, Addr.add_lit] at this
    exact this
theorem ruRul : Try.prog.underlying 69 = some (.struct (Try.prog.fieldsOf 69)) := by kernel_rfl
theorem rcRul : Try.prog.cellsOf 69 = 3 := by kernel_rfl
theorem ruFrm : Try.prog.underlying 35 = some (.struct (Try.prog.fieldsOf 35)) := by kernel_rfl
theorem rcFrm : Try.prog.cellsOf 35 = 3 := by kernel_rfl
theorem ruWir : Try.prog.underlying 38 = some (.struct (Try.prog.fieldsOf 38)) := by kernel_rfl
theorem rcWir : Try.prog.cellsOf 38 = 4 := by kernel_rfl
theorem ruStp : Try.prog.underlying 40 = some (.struct (Try.prog.fieldsOf 40)) := by kernel_rfl
theorem rcStp : Try.prog.cellsOf 40 = 9 := by kernel_rfl
theorem rcI : Try.prog.cellsOf 3 = 1 := by kernel_rfl
theorem rcB : Try.prog.cellsOf 4 = 1 := by kernel_rfl
theorem rcY : Try.prog.cellsOf 5 = 1 := by kernel_rfl
theorem rcW : Try.prog.cellsOf 32 = 1 := by kernel_rfl
theorem rcRs : Try.prog.cellsOf 57 = 1 := by kernel_rfl
theorem rcYs : Try.prog.cellsOf 33 = 1 := by kernel_rfl
theorem rcIs : Try.prog.cellsOf 36 = 1 := by kernel_rfl
theorem byR : Try.prog.bytesOf 69 = 12 := by kernel_rfl
theorem byY : Try.prog.bytesOf 5 = 1 := by kernel_rfl
theorem byI : Try.prog.bytesOf 3 = 8 := by kernel_rfl
theorem len1 {cs : List Value} (h : cs.length = 1) : ∃ a, cs = [a] := by
  match cs, h with
  | [a], _ => exact ⟨a, rfl⟩
theorem len3 {cs : List Value} (h : cs.length = 3) : ∃ a0 a1 a2, cs = [a0, a1, a2] := by
  match cs, h with
  | [a0, a1, a2], _ => exact ⟨a0, a1, a2, rfl⟩
theorem len4 {cs : List Value} (h : cs.length = 4) : ∃ a0 a1 a2 a3, cs = [a0, a1, a2, a3] := by
  match cs, h with
  | [a0, a1, a2, a3], _ => exact ⟨a0, a1, a2, a3, rfl⟩
theorem len9 {cs : List Value} (h : cs.length = 9) : ∃ a0 a1 a2 a3 a4 a5 a6 a7 a8, cs = [a0, a1, a2, a3, a4, a5, a6, a7, a8] := by
  match cs, h with
  | [a0, a1, a2, a3, a4, a5, a6, a7, a8], _ => exact ⟨a0, a1, a2, a3, a4, a5, a6, a7, a8, rfl⟩
theorem rdRule {fuel : Nat} {cs : List Value} {x : DataW H × List MemPlace} (h : DataW.trod enc Try.prog W base spare held fuel 69 cs = some x) (hw : Fit 69 x.1) : ∃ r, RRule cs r := by
  obtain ⟨a0, a1, a2, rfl⟩ := len3 (st_len ruRul rcRul h)
  obtain ⟨n0, y0, h0, k0⟩ := st_field (i := 0) (ft := 4) (off := 0) ruRul (by kernel_rfl) rcB h hw
  obtain ⟨v0, rfl⟩ := rdBool Try.underlying4 h0
  obtain ⟨n1, y1, h1, k1⟩ := st_field (i := 1) (ft := 32) (off := 1) ruRul (by kernel_rfl) rcW h hw
  obtain ⟨v1, rfl, b1⟩ := rdNat (N := 4294967295) Try.underlying32 rfl rfl h1
  obtain ⟨n2, y2, h2, k2⟩ := st_field (i := 2) (ft := 32) (off := 2) ruRul (by kernel_rfl) rcW h hw
  obtain ⟨v2, rfl, b2⟩ := rdNat (N := 4294967295) Try.underlying32 rfl rfl h2
  exact ⟨⟨v0, v1, v2⟩, rfl, by show v1 < _; omega, by show v2 < _; omega⟩
theorem rdRules {fuel : Nat} {v : Value} {x : DataW H × List MemPlace} (h : DataW.trod enc Try.prog W base spare held fuel 57 [v] = some x) (hw : Fit 57 x.1) : ∃ l : List DRule, Rules (memW W) v l ∧ l.length * 12 ≤ 140737488355328 := by
  obtain ⟨q, h1, h2⟩ := rdSlice (R := RRule) sl57.slice rcRul (by decide) (fun n cs x hx hf => rdRule hx hf) h hw
  rw [byR] at h2
  exact ⟨q, h1, Nat.le_trans h2 (by decide)⟩
theorem rdRuLists {fuel : Nat} {v : Value} {x : DataW H × List MemPlace} (h : DataW.trod enc Try.prog W base spare held fuel 22 [v] = some x) (hw : Fit 22 x.1) : ∃ ll : List (List DRule), RuLists (memW W) v ll := by
  obtain ⟨q, h1, _⟩ := rdSlice (R := RRules (memW W)) sl22.slice rcRs (by decide) (fun n cs x hx hf => by
    obtain ⟨a, rfl⟩ : ∃ a, cs = [a] := by
      rcases Go.Deep.open_slice sl57.slice hx with ⟨h1, _⟩ | ⟨_, _, _, _, _, _, _, h1, _⟩
      · exact ⟨_, h1⟩
      · exact ⟨_, h1⟩
    obtain ⟨l, h1, h2⟩ := rdRules hx hf
    exact ⟨l, a, rfl, h1, h2⟩) h hw
  exact ⟨q, h1⟩
theorem rdBytes {fuel : Nat} {v : Value} {x : DataW H × List MemPlace} (h : DataW.trod enc Try.prog W base spare held fuel 33 [v] = some x) (hw : Fit 33 x.1) : ∃ l : List Nat, Bytes (memW W) v l ∧ (∀ b ∈ l, b < 256) ∧ l.length ≤ 140737488355328 := by
  obtain ⟨q, h1, h2⟩ := rdSlice (R := fun cs (b : {n : Nat // n < 256}) => RByte cs b.1) sl33.slice rcY (by decide) (fun n cs x hx hf => by
    obtain ⟨a, rfl⟩ : ∃ a, cs = [a] := by
      obtain ⟨k, h1, _⟩ := DataW.trod_int Try.underlying5 hx
      exact ⟨_, h1⟩
    obtain ⟨k, h1, h2⟩ := rdNat (N := 255) Try.underlying5 rfl rfl hx
    exact ⟨⟨k, by omega⟩, by rw [h1]⟩) h hw
  rw [byY] at h2
  refine ⟨q.map (·.1), ?_, fun b hb => ?_, by rw [List.length_map]; have := Nat.le_trans h2 (show reachBytes ≤ 140737488355328 by decide); omega⟩
  · obtain ⟨p, c, g1, g2, g3⟩ := h1.h
    refine ⟨⟨p, c, by rw [List.length_map]; exact g1, by rw [List.length_map]; exact g2, fun i y hy => ?_⟩⟩
    rw [List.getElem?_map] at hy
    obtain ⟨z, hz, rfl⟩ := Option.map_eq_some_iff.1 hy
    exact g3 i z hz
  · obtain ⟨z, _, rfl⟩ := List.mem_map.1 hb
    exact z.2
theorem rdInts {fuel : Nat} {v : Value} {x : DataW H × List MemPlace} (h : DataW.trod enc Try.prog W base spare held fuel 36 [v] = some x) (hw : Fit 36 x.1) : ∃ l : List Int, Ints (memW W) v l ∧ l.length ≤ 140737488355328 := by
  obtain ⟨q, h1, h2⟩ := rdSlice (R := RInt) sl36.slice rcI (by decide) (fun n cs x hx hf => by
    obtain ⟨k, h1, _⟩ := DataW.trod_int Try.underlying3 hx
    exact ⟨k, h1⟩) h hw
  rw [byI] at h2
  exact ⟨q, h1, by have := Nat.le_trans h2 (show reachBytes ≤ 140737488355328 by decide); omega⟩
theorem rdFrame {fuel : Nat} {a0 a1 a2 : Value} {x : DataW H × List MemPlace} (h : DataW.trod enc Try.prog W base spare held fuel 35 [a0, a1, a2] = some x) (hw : Fit 35 x.1) : ∃ f : DFr, a0 = .int .u32 (f.id : Int) ∧ a1 = .bool f.wide ∧ Bytes (memW W) a2 f.data ∧ InR f := by
  obtain ⟨n0, y0, h0, k0⟩ := st_field (i := 0) (ft := 32) (off := 0) ruFrm (by kernel_rfl) rcW h hw
  obtain ⟨v0, rfl, b0⟩ := rdNat (N := 4294967295) Try.underlying32 rfl rfl h0
  obtain ⟨n1, y1, h1, k1⟩ := st_field (i := 1) (ft := 4) (off := 1) ruFrm (by kernel_rfl) rcB h hw
  obtain ⟨v1, rfl⟩ := rdBool Try.underlying4 h1
  obtain ⟨n2, y2, h2, k2⟩ := st_field (i := 2) (ft := 33) (off := 2) ruFrm (by kernel_rfl) rcYs h hw
  obtain ⟨l, g1, g2, g3⟩ := rdBytes h2 k2
  exact ⟨⟨v0, v1, l⟩, rfl, rfl, g1, ⟨by show v0 < _; omega, g2, g3⟩⟩
theorem rdWire {fuel : Nat} {a0 a1 a2 a3 : Value} {x : DataW H × List MemPlace} (h : DataW.trod enc Try.prog W base spare held fuel 38 [a0, a1, a2, a3] = some x) (hw : Fit 38 x.1) : ∃ w : DWire, a0 = .bool w.lost ∧ a1 = .bool w.twice ∧ a2 = .int .i64 w.late ∧ Ints (memW W) a3 w.flips ∧ w.flips.length ≤ 140737488355328 := by
  obtain ⟨n0, y0, h0, k0⟩ := st_field (i := 0) (ft := 4) (off := 0) ruWir (by kernel_rfl) rcB h hw
  obtain ⟨v0, rfl⟩ := rdBool Try.underlying4 h0
  obtain ⟨n1, y1, h1, k1⟩ := st_field (i := 1) (ft := 4) (off := 1) ruWir (by kernel_rfl) rcB h hw
  obtain ⟨v1, rfl⟩ := rdBool Try.underlying4 h1
  obtain ⟨n2, y2, h2, k2⟩ := st_field (i := 2) (ft := 3) (off := 2) ruWir (by kernel_rfl) rcI h hw
  obtain ⟨v2, rfl, _⟩ := rdInt Try.underlying3 h2
  obtain ⟨n3, y3, h3, k3⟩ := st_field (i := 3) (ft := 36) (off := 3) ruWir (by kernel_rfl) rcIs h hw
  obtain ⟨l, g1, g2⟩ := rdInts h3 k3
  exact ⟨⟨v0, v1, v2, l⟩, rfl, rfl, rfl, g1, g2⟩
theorem rdStep {fuel : Nat} {cs : List Value} {x : DataW H × List MemPlace} (h : DataW.trod enc Try.prog W base spare held fuel 40 cs = some x) (hw : Fit 40 x.1) : ∃ s, RStep (memW W) cs s := by
  obtain ⟨a0, a1, a2, a3, a4, a5, a6, a7, a8, rfl⟩ := len9 (st_len ruStp rcStp h)
  obtain ⟨n0, y0, h0, k0⟩ := st_field (i := 0) (ft := 3) (off := 0) ruStp (by kernel_rfl) rcI h hw
  obtain ⟨v0, rfl, _⟩ := rdInt Try.underlying3 h0
  obtain ⟨n1, y1, h1, k1⟩ := st_field (i := 1) (ft := 3) (off := 1) ruStp (by kernel_rfl) rcI h hw
  obtain ⟨v1, rfl, _⟩ := rdInt Try.underlying3 h1
  obtain ⟨n2, y2, h2, k2⟩ := st_field (i := 2) (ft := 35) (off := 2) ruStp (by kernel_rfl) rcFrm h hw
  obtain ⟨f, rfl, rfl, g1, g2⟩ := rdFrame h2 k2
  obtain ⟨n3, y3, h3, k3⟩ := st_field (i := 3) (ft := 38) (off := 5) ruStp (by kernel_rfl) rcWir h hw
  obtain ⟨w, rfl, rfl, rfl, g3, g4⟩ := rdWire h3 k3
  exact ⟨⟨v0, v1, f, w⟩, _, _, rfl, g1, g2, g3, g4⟩
theorem rdSteps {fuel : Nat} {v : Value} {x : DataW H × List MemPlace} (h : DataW.trod enc Try.prog W base spare held fuel 23 [v] = some x) (hw : Fit 23 x.1) : ∃ l : List DStep, Steps (memW W) v l := by
  obtain ⟨q, h1, _⟩ := rdSlice (R := RStep (memW W)) sl23.slice rcStp (by decide) (fun n cs x hx hf => rdStep hx hf) h hw
  exact ⟨q, h1⟩
end Go.Proofs.Ytfdjkdiebabimaa.Sh
