/- Memories as they were seen, and slices that read as lists in them. Conditions: none. -/
import Derived.Test.YtfdjkdiebabimaaV8
set_option linter.unusedVariables false
set_option linter.unusedSimpArgs false
namespace Go.V
open Go.RowKit
variable {P : Program}

theorem add_r {T : TypeId} {x y : Operand} {k : IntKind} {a b : Int} {w : World} {K : Value → World → Prop} : Run P (binSem .add T x y (.int k a) (.int k b)) w K = K (.int k (k.wrap (a + b))) w := (p_add (T' := 0)).run
theorem sub_r {T : TypeId} {x y : Operand} {k : IntKind} {a b : Int} {w : World} {K : Value → World → Prop} : Run P (binSem .sub T x y (.int k a) (.int k b)) w K = K (.int k (k.wrap (a - b))) w := p_sub.run
theorem mul_r {T : TypeId} {x y : Operand} {k : IntKind} {a b : Int} {w : World} {K : Value → World → Prop} : Run P (binSem .mul T x y (.int k a) (.int k b)) w K = K (.int k (k.wrap (a * b))) w := p_mul.run
theorem lss_r {T : TypeId} {x y : Operand} {k : IntKind} {a b : Int} {w : World} {K : Value → World → Prop} : Run P (binSem .lss T x y (.int k a) (.int k b)) w K = K (.bool (decide (a < b))) w := p_lss.run
theorem leq_r {T : TypeId} {x y : Operand} {k : IntKind} {a b : Int} {w : World} {K : Value → World → Prop} : Run P (binSem .leq T x y (.int k a) (.int k b)) w K = K (.bool (decide (a ≤ b))) w := p_leq.run
theorem gtr_r {T : TypeId} {x y : Operand} {k : IntKind} {a b : Int} {w : World} {K : Value → World → Prop} : Run P (binSem .gtr T x y (.int k a) (.int k b)) w K = K (.bool (decide (b < a))) w := p_gtr.run
theorem geq_r {T : TypeId} {x y : Operand} {k : IntKind} {a b : Int} {w : World} {K : Value → World → Prop} : Run P (binSem .geq T x y (.int k a) (.int k b)) w K = K (.bool (decide (b ≤ a))) w := p_geq.run
theorem eql_r {T : TypeId} {x y : Operand} {k : IntKind} {a b : Int} {w : World} {K : Value → World → Prop} : Run P (binSem .eql T x y (.int k a) (.int k b)) w K = K (.bool (decide (a = b))) w := p_eql.run
theorem neq_r {T : TypeId} {x y : Operand} {k : IntKind} {a b : Int} {w : World} {K : Value → World → Prop} : Run P (binSem .neq T x y (.int k a) (.int k b)) w K = K (.bool (!decide (a = b))) w := p_neq.run
theorem eqs_r {T : TypeId} {x y : Operand} {a b : ByteArray} {w : World} {K : Value → World → Prop} : Run P (binSem .eql T x y (.string a) (.string b)) w K = K (.bool (decide (a = b))) w := p_eqs.run
theorem nes_r {T : TypeId} {x y : Operand} {a b : ByteArray} {w : World} {K : Value → World → Prop} : Run P (binSem .neq T x y (.string a) (.string b)) w K = K (.bool (!decide (a = b))) w := p_nes.run
theorem not_r {b : Bool} {w : World} {K : Value → World → Prop} : Run P (Op.unary .not (.bool b)) w K = K (.bool (!b)) w := p_not.run
theorem nil_r {a : Addr} {w : World} {K : Value → World → Prop} : Run P (nilSem (.pointer (some a))) w K = K (.pointer (some a)) w := p_nil.run
theorem eql_q {T : TypeId} {x y : Operand} {k : IntKind} {a b : Int} {w : World} {K : Value → Prop} : RunQ P (binSem .eql T x y (.int k a) (.int k b)) w K = K (.bool (decide (a = b))) := p_eql.runQ
theorem neq_q {T : TypeId} {x y : Operand} {k : IntKind} {a b : Int} {w : World} {K : Value → Prop} : RunQ P (binSem .neq T x y (.int k a) (.int k b)) w K = K (.bool (!decide (a = b))) := p_neq.runQ
theorem lss_q {T : TypeId} {x y : Operand} {k : IntKind} {a b : Int} {w : World} {K : Value → Prop} : RunQ P (binSem .lss T x y (.int k a) (.int k b)) w K = K (.bool (decide (a < b))) := p_lss.runQ
theorem add_q {T : TypeId} {x y : Operand} {k : IntKind} {a b : Int} {w : World} {K : Value → Prop} : RunQ P (binSem .add T x y (.int k a) (.int k b)) w K = K (.int k (k.wrap (a + b))) := (p_add (T' := 0)).runQ
theorem sub_q {T : TypeId} {x y : Operand} {k : IntKind} {a b : Int} {w : World} {K : Value → Prop} : RunQ P (binSem .sub T x y (.int k a) (.int k b)) w K = K (.int k (k.wrap (a - b))) := p_sub.runQ
theorem eqs_q {T : TypeId} {x y : Operand} {a b : ByteArray} {w : World} {K : Value → Prop} : RunQ P (binSem .eql T x y (.string a) (.string b)) w K = K (.bool (decide (a = b))) := p_eqs.runQ
theorem nes_q {T : TypeId} {x y : Operand} {a b : ByteArray} {w : World} {K : Value → Prop} : RunQ P (binSem .neq T x y (.string a) (.string b)) w K = K (.bool (!decide (a = b))) := p_nes.runQ
theorem not_q {b : Bool} {w : World} {K : Value → Prop} : RunQ P (Op.unary .not (.bool b)) w K = K (.bool (!b)) := p_not.runQ

abbrev Mem := Nat → Nat → Option Value
def memW (w : World) : Mem := fun b o => w.cell? ⟨b, o, none⟩
/-- What m has, w has. -/
def Sub (m : Mem) (w : World) : Prop := ∀ b o v, m b o = some v → w.cell? ⟨b, o, none⟩ = some v
def Dom (m : Mem) (B : Nat) : Prop := ∀ b o v, m b o = some v → b < B
theorem Sub.self (w : World) : Sub (memW w) w := fun _ _ _ h => h
theorem Dom.self (w : World) : Dom (memW w) w.heap.size := fun b o v h => World.block_lt_of_cell? w ⟨b, o, none⟩ h
theorem Sub.dom {m : Mem} {w : World} (h : Sub m w) : Dom m w.heap.size := fun b o v hv => World.block_lt_of_cell? w ⟨b, o, none⟩ (h b o v hv)
theorem Sub.ext {m : Mem} {w w' : World} (h : Sub m w) (e : Ext w w') : Sub m w' := fun b o v hv => cell_ext (h b o v hv) e
theorem Sub.below {m : Mem} {w w' : World} {B : Nat} (h : Sub m w) (e : Below B w w') (d : Dom m B) : Sub m w' := fun b o v hv => by
  rw [Below.cell e (show (⟨b, o, none⟩ : Addr).block < B from d b o v hv)]; exact h b o v hv
theorem Dom.mono {m : Mem} {B B' : Nat} (h : Dom m B) (hB : B ≤ B') : Dom m B' := fun b o v hv => Nat.lt_of_lt_of_le (h b o v hv) hB

/-- The slice v reads in m as the list l: an element's sz cells by R. -/
structure Sl {α : Type} (m : Mem) (sz : Nat) (R : List Value → α → Prop) (v : Value) (l : List α) : Prop where
  h : ∃ p c, v = .slice p l.length c ∧ l.length ≤ c ∧ ∀ i x, l[i]? = some x → ∃ b o cs, p = some ⟨b, o, none⟩ ∧ cs.length = sz ∧ (∀ j u, cs[j]? = some u → m b (o + i * sz + j) = some u) ∧ R cs x
theorem Sl.nil {α : Type} (m : Mem) (sz : Nat) (R : List Value → α → Prop) (p : Option Addr) (c : Nat) : Sl m sz R (.slice p 0 c) [] := ⟨⟨p, c, rfl, Nat.zero_le _, fun i x h => by simp at h⟩⟩
theorem Sl.form {α : Type} {m : Mem} {sz : Nat} {R : List Value → α → Prop} {v : Value} {l : List α} (h : Sl m sz R v l) : ∃ p c, v = .slice p l.length c ∧ l.length ≤ c :=
  let ⟨p, c, h1, h2, _⟩ := h.h; ⟨p, c, h1, h2⟩
theorem Sl.get {α : Type} {m : Mem} {sz : Nat} {R : List Value → α → Prop} {p : Option Addr} {n c : Nat} {l : List α} (h : Sl m sz R (.slice p n c) l) {i : Nat} {x : α} (hx : l[i]? = some x) :
    ∃ b o cs, p = some ⟨b, o, none⟩ ∧ n = l.length ∧ i < n ∧ cs.length = sz ∧ (∀ w, Sub m w → At w b (o + i * sz) cs) ∧ R cs x := by
  obtain ⟨p', c', h1, h2, h3⟩ := h.h
  injection h1 with e1 e2 e3
  subst e1; subst e2; subst e3
  obtain ⟨b, o, cs, hp, hl, hc, hr⟩ := h3 i x hx
  exact ⟨b, o, cs, hp, rfl, (List.getElem?_eq_some_iff.1 hx).1, hl, fun w hw j u hj => hw _ _ _ (hc j u hj), hr⟩
theorem Sl.len {α : Type} {m : Mem} {sz : Nat} {R : List Value → α → Prop} {p : Option Addr} {n c : Nat} {l : List α} (h : Sl m sz R (.slice p n c) l) : n = l.length ∧ n ≤ c := by
  obtain ⟨p', c', h1, h2, h3⟩ := h.h
  injection h1 with e1 e2 e3
  subst e1; subst e2; subst e3
  exact ⟨rfl, h2⟩
theorem Sl.mono {α : Type} {m m' : Mem} {sz : Nat} {R : List Value → α → Prop} {v : Value} {l : List α} (h : Sl m sz R v l) (hm : ∀ b o v, m b o = some v → m' b o = some v) : Sl m' sz R v l := by
  obtain ⟨p, c, h1, h2, h3⟩ := h.h
  refine ⟨⟨p, c, h1, h2, fun i x hx => ?_⟩⟩
  obtain ⟨b, o, cs, hp, hl, hc, hr⟩ := h3 i x hx
  exact ⟨b, o, cs, hp, hl, fun j u hj => hm _ _ _ (hc j u hj), hr⟩
theorem Sl.imp {α : Type} {m : Mem} {sz : Nat} {R R' : List Value → α → Prop} {v : Value} {l : List α} (h : Sl m sz R v l) (hr : ∀ cs x, R cs x → R' cs x) : Sl m sz R' v l := by
  obtain ⟨p, c, h1, h2, h3⟩ := h.h
  refine ⟨⟨p, c, h1, h2, fun i x hx => ?_⟩⟩
  obtain ⟨b, o, cs, hp, hl, hc, h⟩ := h3 i x hx
  exact ⟨b, o, cs, hp, hl, hc, hr _ _ h⟩
/-- A list of elements of sz cells each, one behind the other. -/
theorem flat_get {α : Type} (f : α → List Value) (sz : Nat) : ∀ (l : List α) (i j : Nat) (x : α) (u : Value), (∀ x ∈ l, (f x).length = sz) → l[i]? = some x → (f x)[j]? = some u → (l.flatMap f)[i * sz + j]? = some u
  | [], i, j, x, u, _, h, _ => by simp at h
  | y :: l, 0, j, x, u, hs, h, hj => by
    simp only [List.getElem?_cons_zero, Option.some.injEq] at h
    subst h
    simp only [Nat.zero_mul, Nat.zero_add, List.flatMap_cons]
    rw [List.getElem?_append_left (List.getElem?_eq_some_iff.1 hj).1]
    exact hj
  | y :: l, i + 1, j, x, u, hs, h, hj => by
    have hy := hs y (by simp)
    have := flat_get f sz l i j x u (fun x hx => hs x (by simp [hx])) (by simpa using h) hj
    simp only [List.flatMap_cons]
    rw [List.getElem?_append_right (by rw [hy, Nat.add_mul]; omega), hy]
    rw [show (i + 1) * sz + j - sz = i * sz + j by rw [Nat.add_mul]; omega]
    exact this
theorem flat_len {α : Type} (f : α → List Value) (sz : Nat) (l : List α) (hs : ∀ x ∈ l, (f x).length = sz) : (l.flatMap f).length = l.length * sz := by
  induction l with
  | nil => simp
  | cons y l ih =>
    simp only [List.flatMap_cons, List.length_append, List.length_cons]
    rw [ih fun x hx => hs x (by simp [hx]), hs y (by simp), Nat.add_mul]
    omega
/-- An owned row reads as the list whose cells it has. -/
theorem Own.sl {α : Type} {w : World} {e sz : Nat} {v : Value} {l : List α} {f : α → List Value} {R : List Value → α → Prop} (h : Own w e sz v l.length (l.flatMap f)) (hs : ∀ x ∈ l, (f x).length = sz) (hr : ∀ x ∈ l, R (f x) x) : Sl (memW w) sz R v l := by
  obtain ⟨p, c, rfl, hc⟩ := h.len
  refine ⟨⟨p, c, rfl, hc, fun i x hx => ?_⟩⟩
  obtain ⟨g, c', he, _, hat⟩ := h.at (Nat.lt_of_le_of_lt (Nat.zero_le _) (List.getElem?_eq_some_iff.1 hx).1)
  injection he with e1 _ _
  subst e1
  have hmem := List.mem_of_getElem? hx
  exact ⟨g, 0, f x, rfl, hs x hmem, fun j u hj => (by have := hat _ u (flat_get f sz l i j x u hs hx hj); simpa [memW] using this), hr x hmem⟩
end Go.V
