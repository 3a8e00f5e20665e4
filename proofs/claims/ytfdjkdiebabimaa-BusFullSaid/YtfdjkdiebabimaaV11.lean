/- Copies of lists, stores into rows that are owned, rows in the order in which they were made. Conditions: none. -/
import Derived.Test.YtfdjkdiebabimaaV10
import Derived.Laws.Cover3
set_option linter.unusedVariables false
set_option linter.unusedSimpArgs false
namespace Go.V
open Go.RowKit
variable {P : Program}

theorem p_eqnil {T e : TypeId} {x y : Operand} {p : Option Addr} {n c : Nat} (hs : P.underlying T = some (.slice e)) : Pure P (binSem .eql T x y (.slice p n c) (.slice none 0 0)) (.bool p.isNone) := fun w => by
  simp [binSem, eqGuard, binOp, Op.equal, Op.maxDepth, Sem.run_bind, Result.andThen, Sem.run, pure, Go.run_equalIn_slice_nil w 9999 T e p n c hs]
/-- Where a cell of a flat list lies. -/
theorem flat_inv {α : Type} (f : α → List Value) (sz : Nat) : ∀ (l : List α) (j : Nat) (u : Value), (∀ x ∈ l, (f x).length = sz) → (l.flatMap f)[j]? = some u → ∃ i x k, l[i]? = some x ∧ (f x)[k]? = some u ∧ j = i * sz + k
  | [], j, u, _, h => by simp at h
  | y :: l, j, u, hs, h => by
    have hy := hs y (by simp)
    rw [List.flatMap_cons] at h
    by_cases hj : j < sz
    · rw [List.getElem?_append_left (by omega)] at h
      exact ⟨0, y, j, by simp, h, by omega⟩
    · rw [List.getElem?_append_right (by omega), hy] at h
      obtain ⟨i, x, k, h1, h2, h3⟩ := flat_inv f sz l (j - sz) u (fun x hx => hs x (by simp [hx])) h
      exact ⟨i + 1, x, k, by simpa using h1, h2, by rw [Nat.add_mul]; omega⟩
theorem Sl.pairs {α : Type} {m : Mem} {sz : Nat} {R : List Value → α → Prop} {p : Option Addr} {n c : Nat} {l : List α} (h : Sl m sz R (.slice p n c) l) :
    ∃ ps : List (List Value × α), ps.map (·.2) = l ∧ (∀ q ∈ ps, q.1.length = sz ∧ R q.1 q.2) ∧ ∀ a, p = some a → ∀ w, Sub m w → ∀ j u, (ps.flatMap (·.1))[j]? = some u → w.cell? (a.add j) = some u := by
  obtain ⟨p', c', h1, h2, h3⟩ := h.h
  injection h1 with e1 e2 e3
  subst e1; subst e2; subst e3
  have h4 : ∀ i : Fin l.length, ∃ cs : List Value, ∃ b o, p = some ⟨b, o, none⟩ ∧ cs.length = sz ∧ (∀ j u, cs[j]? = some u → m b (o + i.1 * sz + j) = some u) ∧ R cs l[i] := fun i => by
    obtain ⟨b, o, cs, hp, hl, hc, hr⟩ := h3 i.1 l[i] (by simp)
    exact ⟨cs, b, o, hp, hl, hc, hr⟩
  obtain ⟨f, hf⟩ := Classical.axiomOfChoice h4
  have hsz : ∀ q ∈ List.ofFn (fun i : Fin l.length => (f i, l[i])), q.1.length = sz ∧ R q.1 q.2 := by
    intro q hq
    obtain ⟨i, rfl⟩ := List.mem_ofFn.1 hq
    obtain ⟨b, o, _, hl, _, hr⟩ := hf i
    exact ⟨hl, hr⟩
  refine ⟨List.ofFn fun i : Fin l.length => (f i, l[i]), ?_, hsz, ?_⟩
  · apply List.ext_getElem
    · simp
    · intro i h1 h2; simp
  · rintro a rfl w hw j u hj
    obtain ⟨i, x, k, hi, hk, rfl⟩ := flat_inv _ sz _ j u (fun q hq => (hsz q hq).1) hj
    obtain ⟨hi1, hi2⟩ := List.getElem?_eq_some_iff.1 hi
    rw [List.length_ofFn] at hi1
    rw [List.getElem_ofFn] at hi2
    subst hi2
    obtain ⟨b, o, hp, _, hc, _⟩ := hf ⟨i, hi1⟩
    injection hp with hp
    subst hp
    rw [Addr.add_lit]
    have := hw _ _ _ (hc k u hk)
    rw [← this]
    congr 2
    simp only
    omega

/-- What a copy of a list is: a row of its own in new memory. -/
structure Cloned {α : Type} (e sz : Nat) (R : List Value → α → Prop) (l : List α) (w : World) (v : Value) (w' : World) : Prop where
  ext : Ext w w'
  own : ∃ ps : List (List Value × α), ps.map (·.2) = l ∧ (∀ q ∈ ps, q.1.length = sz ∧ R q.1 q.2) ∧ Own w' e sz v l.length (ps.flatMap (·.1))
  low : ∀ g, v.ownBlock = some g → w.heap.size ≤ g
theorem Cloned.mono {α : Type} {e sz : Nat} {R : List Value → α → Prop} {l : List α} {w0 w w' : World} {v : Value} (h : Cloned e sz R l w v w') (x : Ext w0 w) : Cloned e sz R l w0 v w' :=
  ⟨x.trans h.ext, h.own, fun g hg => Nat.le_trans x.size (h.low g hg)⟩
theorem Cloned.chg {α : Type} {e sz b : Nat} {R : List Value → α → Prop} {l : List α} {w w' w'' : World} {v : Value} (h : Cloned e sz R l w v w') (x : Chg b w' w'') (hb : w.heap.size ≤ b) (hne : v.ownBlock ≠ some b) : Cloned e sz R l w v w'' :=
  let ⟨ps, h1, h2, h3⟩ := h.own; ⟨h.ext.chg x hb, ⟨ps, h1, h2, h3.chg x hne⟩, h.low⟩
theorem r_clone {α : Type} {t e sz bytes ty : Nat} (ht : SlT P t e sz bytes) (h0 : ∀ w, (Instr.buildSlice t 0 #[]).run P w = .ok (.slice (some ⟨w.heap.size, 0, none⟩) 0 0) (w.alloc (.cells #[] e)))
    {m : Mem} {s : Value} {l : List α} {R : List Value → α → Prop} {w : World} (hs : Sl m sz R s l) (hm : Sub m w) (hn : l.length ≤ 1073741824) (h1 : ∀ cs x, R cs x → ∀ u ∈ cs, u.oneCell' = true) (hb : bytes ≤ 65536)
    {x y : Operand} {K : Value → World → Prop} (hk : ∀ v w', Cloned e sz R l w v w' → K v w') :
    Run P (binSem .eql t x y s (.slice none 0 0)) w fun t4 w1 => CondP t4 1 (fun (k1 : N1) => K (.slice none 0 0) w1) (fun (k2 : N1) => k2 (.slice none 0 0) w1)
      (fun (t2 : Value) (w2 : World) => Run P (Instr.buildSlice t 0 #[]) w2 fun t5 w3 => Run P (Builtin.append_ #[t, t] ty #[t5, s]) w3 fun t7 w4 => K t7 w4) := by
  obtain ⟨p, c, rfl, hc⟩ := hs.form
  obtain ⟨ps, hps, hq, hcell⟩ := hs.pairs
  rw [Pure.run (p_eqnil ht.slice)]
  have hfl : (ps.flatMap (·.1)).length = l.length * sz := by rw [flat_len _ sz ps fun q hh => (hq q hh).1, ← hps, List.length_map]
  refine CondP.of (fun h => ?_) (fun h => ?_)
  · have hp : p = none := by simpa using h
    subst hp
    have hl : l = [] := by
      cases l with
      | nil => rfl
      | cons a l =>
        obtain ⟨b, o, cs, hp, _⟩ := hs.get (i := 0) (x := a) (by simp)
        cases hp
    subst hl
    refine hk _ _ ⟨Ext.refl _, ⟨ps, hps, hq, ?_⟩, fun g hg => by simp [Value.ownBlock] at hg⟩
    have : ps.flatMap (·.1) = [] := List.eq_nil_of_length_eq_zero (by simpa using hfl)
    rw [this]; exact Own.nil _ _ _
  · obtain ⟨a, rfl⟩ : ∃ a, p = some a := by cases p with | none => simp at h | some a => exact ⟨a, rfl⟩
    refine r_lit (l := []) (h0 w) fun w1 e1 z1 b1 => ?_
    have hown : Own w1 e sz (.slice (some ⟨w.heap.size, 0, none⟩) 0 0) 0 [] := ⟨by simp, .inr ⟨w.heap.size, 0, [], rfl, Nat.le_refl _, Nat.zero_le _, by simp, by simpa using b1⟩⟩
    have hlb : l.length * bytes ≤ 140737488355328 := Nat.le_trans (Nat.mul_le_mul hn hb) (by decide)
    obtain ⟨v', w', hr, ho, hg⟩ := run_appendA (ty := ty) (m := l.length) (c := c) ht hown (hcell a rfl w1 (hm.ext e1)) hfl (fun u hu => by
      obtain ⟨q, hq1, hq2⟩ := List.mem_flatMap.1 hu
      exact h1 _ _ (hq q hq1).2 u hq2) (by simp only [maxLen]; omega) (by simpa using hlb)
    have hv : ∀ k, (Value.slice (some ⟨w.heap.size, 0, none⟩) 0 0).ownBlock = some k → w.heap.size ≤ k := fun k hk => by simp [Value.ownBlock] at hk; omega
    refine .of hr (hk _ _ ⟨Below.trans e1 (hg.below e1.size hv), ⟨ps, hps, hq, by simpa using ho⟩, hg.low e1.size hv⟩)

/-- A store into a row that is owned. -/
theorem r_storeOwn {t e sz nn g j n c : Nat} {xs l : List Value} {v : Value} {w : World} {K : World → Prop} (ht : sizeB P t nn = true) (hv : v.cells.toList = l) (hl : l.length = nn) (h1 : ∀ x ∈ l, x.oneCell' = true)
    (hown : Own w e sz (.slice (some ⟨g, 0, none⟩) n c) n xs) (hj : j + nn ≤ xs.length) (k : ∀ w', Chg g w w' → Own w' e sz (.slice (some ⟨g, 0, none⟩) n c) n (splice xs j l) → K w') :
    RunU P (Instr.storeAt t (.pointer (some ⟨g, j, none⟩)) v) w K := by
  obtain ⟨h2, h3 | ⟨g', cap, ys, h3, h4, h5, h6, h7⟩⟩ := hown
  · cases h3.1
  · injection h3 with e1 e2 e3
    injection e1 with e1; injection e1 with e1
    subst e1; subst e3
    refine r_store ht hv hl h1 h7 (by simp; omega) fun w' c' b' => k w' c' ⟨by rw [length_splice _ _ _ (by omega)]; exact h2, .inr ⟨g, c, ys, rfl, h4, h5, ?_, ?_⟩⟩
    · rw [List.length_append, length_splice _ _ _ (by omega), ← List.length_append]; exact h6
    · have : splice xs j l ++ ys = splice (xs ++ ys) j l := by
        simp only [splice, List.append_assoc]
        rw [List.take_append_of_le_length (by omega), List.drop_append_of_le_length (by omega)]
      rw [this]; exact b'
theorem splice_set (xs : List Value) (j : Nat) (u : Value) (h : j < xs.length) : splice xs j [u] = xs.set j u := by
  simp [splice, List.set_eq_take_append_cons_drop, h]
/-- An element of a flat list set anew. -/
theorem splice_flat {α : Type} (f : α → List Value) (sz : Nat) : ∀ (l : List α) (i : Nat) (x : α), (∀ y ∈ l, (f y).length = sz) → (f x).length = sz → i < l.length → splice (l.flatMap f) (i * sz) (f x) = (l.set i x).flatMap f
  | [], i, x, _, _, h => by simp at h
  | y :: l, 0, x, hs, hx, _ => by
    have hy := hs y (by simp)
    simp [splice, hx, ← hy]
  | y :: l, i + 1, x, hs, hx, h => by
    have hy := hs y (by simp)
    have := splice_flat f sz l i x (fun z hz => hs z (by simp [hz])) hx (by simpa using h)
    rw [List.set_cons_succ, List.flatMap_cons, List.flatMap_cons, ← this]
    have e1 : (i + 1) * sz = (f y).length + i * sz := by rw [Nat.add_mul, hy]; omega
    simp only [splice, e1]
    rw [List.take_append, List.drop_append]
    have e2 : (f y).length + i * sz - (f y).length = i * sz := by omega
    have e3 : (f y).length + i * sz + (f x).length - (f y).length = i * sz + (f x).length := by omega
    rw [e2, e3, List.take_of_length_le (by omega), List.drop_eq_nil_of_le (by omega)]
    simp
theorem splice_flat1 {α : Type} (f : α → List Value) (sz : Nat) (l : List α) (i j : Nat) (x y : α) (u : Value) (hs : ∀ y ∈ l, (f y).length = sz) (hy : l[i]? = some y) (hj : j < sz) (hx : f x = (f y).set j u) :
    splice (l.flatMap f) (i * sz + j) [u] = (l.set i x).flatMap f := by
  obtain ⟨hi, hy'⟩ := List.getElem?_eq_some_iff.1 hy
  have hlen := hs y (List.mem_of_getElem? hy)
  have hfl := flat_len f sz l hs
  have hlt : i * sz + j < (l.flatMap f).length := by
    rw [hfl]
    have : (i + 1) * sz ≤ l.length * sz := Nat.mul_le_mul_right _ hi
    rw [Nat.add_mul] at this; omega
  rw [← splice_flat f sz l i x hs (by rw [hx]; simpa using hlen) hi, splice_set _ _ _ hlt, hx]
  apply List.ext_getElem?
  intro q
  rw [List.getElem?_set]
  have hb : i * sz + sz ≤ l.length * sz := by
    have : (i + 1) * sz ≤ l.length * sz := Nat.mul_le_mul_right _ hi
    rw [Nat.add_mul] at this; omega
  simp only [splice, List.length_set, hlen]
  by_cases h1 : q < i * sz
  · rw [if_neg (by omega), List.append_assoc, List.getElem?_append_left (by simp only [List.length_append, List.length_take, List.length_set]; omega), List.getElem?_take_of_lt h1]
  · by_cases h2 : q < i * sz + sz
    · rw [List.append_assoc, List.getElem?_append_right (by simp only [List.length_append, List.length_take, List.length_set]; omega), List.getElem?_append_left (by simp only [List.length_append, List.length_take, List.length_set]; omega), List.getElem?_set]
      have : min (i * sz) (l.flatMap f).length = i * sz := by omega
      simp only [List.length_take, this]
      by_cases h3 : i * sz + j = q
      · rw [if_pos h3, if_pos hlt, if_pos (by omega), if_pos (by omega)]
      · rw [if_neg h3, if_neg (by omega)]
        have hf : (f y)[q - i * sz]? = some ((f y)[q - i * sz]'(by omega)) := List.getElem?_eq_getElem _
        have := flat_get f sz l i (q - i * sz) y _ hs hy hf
        rw [show i * sz + (q - i * sz) = q by omega] at this
        rw [this, hf]
    · rw [if_neg (by omega), List.getElem?_append_right (by simp only [List.length_append, List.length_take, List.length_set]; omega), List.getElem?_drop]
      congr 1
      simp only [List.length_append, List.length_take, List.length_set]; omega

/-- These values' own rows were made one after the other, from lo on and below hi. -/
def Inc : Nat → List Value → Nat → Prop
  | lo, [], hi => lo ≤ hi
  | lo, v :: vs, hi => ∃ mid, lo ≤ mid ∧ (∀ g, v.ownBlock = some g → lo ≤ g ∧ g < mid) ∧ Inc mid vs hi
theorem Inc.le : ∀ {vs : List Value} {lo hi : Nat}, Inc lo vs hi → lo ≤ hi
  | [], _, _, h => h
  | _ :: _, _, _, ⟨mid, h1, _, h3⟩ => Nat.le_trans h1 h3.le
theorem Inc.mono : ∀ {vs : List Value} {lo lo' hi hi' : Nat}, Inc lo vs hi → lo' ≤ lo → hi ≤ hi' → Inc lo' vs hi'
  | [], _, _, _, _, h, h1, h2 => Nat.le_trans (Nat.le_trans h1 h) h2
  | v :: vs, _, _, _, _, ⟨mid, m1, m2, m3⟩, h1, h2 => ⟨mid, Nat.le_trans h1 m1, fun g hg => ⟨Nat.le_trans h1 (m2 g hg).1, (m2 g hg).2⟩, m3.mono (Nat.le_refl _) h2⟩
theorem Inc.append : ∀ {vs us : List Value} {lo mid hi : Nat}, Inc lo vs mid → Inc mid us hi → Inc lo (vs ++ us) hi
  | [], _, _, _, _, h, h' => h'.mono h (Nat.le_refl _)
  | v :: vs, us, _, _, _, ⟨m, m1, m2, m3⟩, h' => ⟨m, m1, m2, m3.append h'⟩
theorem Inc.one {v : Value} {lo hi : Nat} (h : lo ≤ hi) (hv : ∀ g, v.ownBlock = some g → lo ≤ g ∧ g < hi) : Inc lo [v] hi := ⟨hi, h, hv, Nat.le_refl _⟩
theorem Inc.get : ∀ {vs : List Value} {lo hi : Nat}, Inc lo vs hi → ∀ {i : Nat} {v : Value}, vs[i]? = some v → ∀ g, v.ownBlock = some g → lo ≤ g ∧ g < hi
  | [], _, _, _, i, v, hv, _, _ => by simp at hv
  | u :: vs, _, _, ⟨mid, h1, h2, h3⟩, 0, v, hv, g, hg => by
    simp only [List.getElem?_cons_zero, Option.some.injEq] at hv
    subst hv
    have := h3.le; have := h2 g hg; omega
  | u :: vs, _, _, ⟨mid, h1, h2, h3⟩, i + 1, v, hv, g, hg => by
    have := h3.get (i := i) (by simpa using hv) g hg
    omega
theorem Inc.ne : ∀ {vs : List Value} {lo hi : Nat}, Inc lo vs hi → ∀ {i j : Nat} {v u : Value}, i < j → vs[i]? = some v → vs[j]? = some u → ∀ g, v.ownBlock = some g → u.ownBlock ≠ some g
  | [], _, _, _, i, j, v, u, _, hv, _, _, _ => by simp at hv
  | x :: vs, _, _, ⟨mid, h1, h2, h3⟩, 0, j + 1, v, u, _, hv, hu, g, hg => fun hu' => by
    simp only [List.getElem?_cons_zero, Option.some.injEq] at hv
    subst hv
    have := h3.get (i := j) (by simpa using hu) g hu'
    have := h2 g hg
    omega
  | x :: vs, _, _, ⟨mid, h1, h2, h3⟩, i + 1, j + 1, v, u, hij, hv, hu, g, hg => h3.ne (i := i) (j := j) (by omega) (by simpa using hv) (by simpa using hu) g hg
theorem Inc.apart {vs : List Value} {lo hi : Nat} (h : Inc lo vs hi) {i j : Nat} {v u : Value} (hij : i ≠ j) (hv : vs[i]? = some v) (hu : vs[j]? = some u) {g : Nat} (hg : v.ownBlock = some g) : u.ownBlock ≠ some g := by
  by_cases hlt : i < j
  · exact h.ne hlt hv hu g hg
  · exact fun hu' => h.ne (show j < i by omega) hu hv g hu' hg
/-- These values' own rows lie from lo on and below hi, each its own. -/
structure Dis (lo : Nat) (vs : List Value) (hi : Nat) : Prop where
  le : lo ≤ hi
  get : ∀ {i : Nat} {v : Value}, vs[i]? = some v → ∀ g, v.ownBlock = some g → lo ≤ g ∧ g < hi
  apart : ∀ {i j : Nat} {v u : Value}, i ≠ j → vs[i]? = some v → vs[j]? = some u → ∀ {g : Nat}, v.ownBlock = some g → u.ownBlock ≠ some g
theorem Inc.dis {lo hi : Nat} {vs : List Value} (h : Inc lo vs hi) : Dis lo vs hi := ⟨h.le, fun hv g hg => h.get hv g hg, fun hij hv hu _ hg => h.apart hij hv hu hg⟩
theorem Dis.mono {lo lo' hi hi' : Nat} {vs : List Value} (h : Dis lo vs hi) (h1 : lo' ≤ lo) (h2 : hi ≤ hi') : Dis lo' vs hi' :=
  ⟨Nat.le_trans (Nat.le_trans h1 h.le) h2, fun hv g hg => by have := h.get hv g hg; omega, fun hij hv hu _ hg => h.apart hij hv hu hg⟩
/-- Two such lists, the blocks of the one away from those of the other. -/
theorem Dis.join {l1 h1 l2 h2 lo hi : Nat} {vs us : List Value} (h : Dis l1 vs h1) (k : Dis l2 us h2) (hd : h1 ≤ l2 ∨ h2 ≤ l1) (b1 : lo ≤ l1) (b2 : h1 ≤ hi) (b3 : lo ≤ l2) (b4 : h2 ≤ hi) : Dis lo (vs ++ us) hi := by
  have hl := h.le
  refine ⟨by omega, fun {i v} hv g hg => ?_, fun {i j v u} hij hv hu g hg hg' => ?_⟩
  · rcases List.mem_append.1 (List.mem_of_getElem? hv) with hm | hm
    · obtain ⟨i, hi⟩ := List.mem_iff_getElem?.1 hm
      have := h.get hi g hg; omega
    · obtain ⟨i, hi⟩ := List.mem_iff_getElem?.1 hm
      have := k.get hi g hg; omega
  · rw [List.getElem?_append] at hv hu
    split at hv <;> split at hu
    · exact h.apart hij hv hu hg hg'
    · have := h.get hv g hg; have := k.get hu g hg'; omega
    · have := k.get hv g hg; have := h.get hu g hg'; omega
    · exact k.apart (by omega) hv hu hg hg'
end Go.V
