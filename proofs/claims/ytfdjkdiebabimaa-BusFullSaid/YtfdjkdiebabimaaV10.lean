/- Conversions of integers and of bytes to texts. Conditions: none. -/
import Derived.Test.YtfdjkdiebabimaaV9
set_option linter.unusedVariables false
set_option linter.unusedSimpArgs false
namespace Go.V
open Go.RowKit
variable {P : Program}

theorem p_conv {s d : Nat} {k k' : IntKind} {x : Int} (hs : P.underlying s = some (.int k)) (hd : P.underlying d = some (.int k')) : Pure P (convert s d (.int k x)) (.int k' (k'.wrap x)) := fun w => by
  simp [convert, run_underlying hs, run_underlying hd, Sem.run_bind, Result.andThen, Conv.intToInt, pure, Sem.run]
theorem p_shr {T : TypeId} {x y : Operand} {k k' : IntKind} {a : Int} {n : Int} (h0 : 0 ≤ n) : Pure P (binSem .shr T x y (.int k a) (.int k' n)) (.int k (a.fdiv (2 ^ (min n.toNat k.bits)))) := fun w => by
  have h0 : ¬ n < 0 := by omega
  simp [binSem, eqGuard, binOp, Op.shift, Sem.run_bind, pure, Sem.run, Result.andThen, h0]
def bytesOf (ns : List Int) : ByteArray := ns.foldl (fun r n => r.push (UInt8.ofNat n.toNat)) ByteArray.empty
theorem r_bytesString {s d e : Nat} {b o n c : Nat} {ns : List Int} {w : World} {K : Value → World → Prop} (hs : P.underlying s = some (.slice e)) (he : P.underlying e = some (.int .u8)) (hd : P.underlying d = some .string)
    (hat : At w b o (ns.map (Value.int .u8))) (hn : ns.length = n) (k : K (.string (bytesOf ns)) w) : Run P (convert s d (.slice (some ⟨b, o, none⟩) n c)) w K := by
  refine .of ?_ k
  rw [run_convert_bytes_string w s d e _ _ _ hs he hd]
  subst hn
  exact run_bytesToString w ⟨b, o, none⟩ ns.length c ns (by
    have := run_loadCells_list (P := P) w ⟨b, o, none⟩ (ns.map (Value.int .u8)) (fun j v hv => by rw [Addr.add_lit]; exact hat j v hv)
    simpa using this)
/-- What a literal leaves: a row of its own. -/
theorem r_lit {s : Sem Value} {l : List Value} {e n c : Nat} {w : World} {K : Value → World → Prop} (h : s.run P w = .ok (.slice (some ⟨w.heap.size, 0, none⟩) n c) (w.alloc (.cells l.toArray e)))
    (k : ∀ w', Ext w w' → w'.heap.size = w.heap.size + 1 → Blk w' w.heap.size l e → K (.slice (some ⟨w.heap.size, 0, none⟩) n c) w') : Run P s w K :=
  .of h (k _ (alloc_ext _ _) (by simp) (by unfold Blk; rw [heap_alloc_new]))
/-- One call of a function by its contract. -/
theorem GoN.does {f : FuncId} (h : plainFn P f = true) {args : List Value} {w : World} {K R : Value → World → Prop} (hd : Does P f args w R) (hk : ∀ v w', R v w' → K v w') : GoN P (callFunc f args.toArray) w K := GoN.call h hd hk
end Go.V
namespace Go.V
open Go.RowKit
variable {P : Program}
/-- It says true, and nothing that was there has turned. -/
structure Yes (w : World) (v : Value) (w' : World) : Prop where
  val : v = .bool true
  ext : Ext w w'
theorem ld1 {w : World} {b u : Nat} {l : List Value} {t : TypeId} (h : Blk w b l u) (ht : oneB P t = true) {o : Nat} {v : Value} (hv : l[o]? = some v) {K : Value → World → Prop} : Run P (Instr.loadAt t (.pointer (some ⟨b, o, none⟩))) w K = K v w := Run.eq (run_load1 ht (h.get hv))
theorem ld1Q {w : World} {b u : Nat} {l : List Value} {t : TypeId} (h : Blk w b l u) (ht : oneB P t = true) {o : Nat} {v : Value} (hv : l[o]? = some v) {K : Value → Prop} : RunQ P (Instr.loadAt t (.pointer (some ⟨b, o, none⟩))) w K = K v := by
  refine propext ⟨?_, fun k => q_load1 ht (h.get hv) k⟩
  rintro ⟨u, h', k⟩
  have := (h' w (Ext.refl _)).symm.trans (run_load1 ht (h.get hv))
  injection this with h1 h2
  subst h1
  exact k
theorem ldN {w : World} {b u n : Nat} {l : List Value} {t : TypeId} (h : Blk w b l u) (ht : aggB P t n = true) {o : Nat} (hn : ((l.drop o).take n).length = n) {K : Value → World → Prop} :
    Run P (Instr.loadAt t (.pointer (some ⟨b, o, none⟩))) w K = K (.agg ((l.drop o).take n).toArray) w :=
  Run.eq (run_loadN ht hn (by have := h.at.sub o n; simpa using this))
theorem ldNQ {w : World} {b u n : Nat} {l : List Value} {t : TypeId} (h : Blk w b l u) (ht : aggB P t n = true) {o : Nat} (hn : ((l.drop o).take n).length = n) {K : Value → Prop} :
    RunQ P (Instr.loadAt t (.pointer (some ⟨b, o, none⟩))) w K = K (.agg ((l.drop o).take n).toArray) := by
  have hat : At w b o ((l.drop o).take n) := by have := h.at.sub o n; simpa using this
  refine propext ⟨?_, fun k => q_loadN ht hn hat k⟩
  rintro ⟨u, h', k⟩
  have := (h' w (Ext.refl _)).symm.trans (run_loadN ht hn hat)
  injection this with h1 h2
  subst h1
  exact k
/-- A slice lent: it reads as the list l, and sixteen marks lie behind it. -/
structure LSl {α : Type} (m : Mem) (sz : Nat) (R : List Value → α → Prop) (mark : Nat → List Value) (v : Value) (l : List α) : Prop where
  h : ∃ b c, v = .slice (some ⟨b, 0, none⟩) l.length c ∧ l.length + 16 ≤ c ∧ (∀ i x, l[i]? = some x → ∃ cs, cs.length = sz ∧ (∀ j u, cs[j]? = some u → m b (i * sz + j) = some u) ∧ R cs x) ∧
    ∀ i, i < 16 → ∀ j u, (mark i)[j]? = some u → m b ((l.length + i) * sz + j) = some u
theorem LSl.sl {α : Type} {m : Mem} {sz : Nat} {R R' : List Value → α → Prop} {mark : Nat → List Value} {v : Value} {l : List α} (h : LSl m sz R mark v l) (hr : ∀ cs x, R cs x → R' cs x) : Sl m sz R' v l := by
  obtain ⟨b, c, rfl, hc, h1, _⟩ := h.h
  refine ⟨⟨_, c, rfl, by omega, fun i x hx => ?_⟩⟩
  obtain ⟨cs, hl, hcs, hR⟩ := h1 i x hx
  exact ⟨b, 0, cs, rfl, hl, fun j u hj => (by have := hcs j u hj; simpa using this), hr _ _ hR⟩
theorem LSl.imp {α : Type} {m : Mem} {sz : Nat} {R R' : List Value → α → Prop} {mark : Nat → List Value} {v : Value} {l : List α} (h : LSl m sz R mark v l) (hr : ∀ cs x, R cs x → R' cs x) : LSl m sz R' mark v l := by
  obtain ⟨b, c, rfl, hc, h1, h2⟩ := h.h
  refine ⟨⟨b, c, rfl, hc, fun i x hx => ?_, h2⟩⟩
  obtain ⟨cs, hl, hcs, hR⟩ := h1 i x hx
  exact ⟨cs, hl, hcs, hr _ _ hR⟩
theorem LSl.mono {α : Type} {m m' : Mem} {sz : Nat} {R : List Value → α → Prop} {mark : Nat → List Value} {v : Value} {l : List α} (h : LSl m sz R mark v l) (hm : ∀ b o v, m b o = some v → m' b o = some v) : LSl m' sz R mark v l := by
  obtain ⟨b, c, rfl, hc, h1, h2⟩ := h.h
  refine ⟨⟨b, c, rfl, hc, fun i x hx => ?_, fun i hi j u hj => hm _ _ _ (h2 i hi j u hj)⟩⟩
  obtain ⟨cs, hl, hcs, hR⟩ := h1 i x hx
  exact ⟨cs, hl, fun j u hj => hm _ _ _ (hcs j u hj), hR⟩
theorem Own.lsl {α : Type} {w : World} {e sz : Nat} {v : Value} {l : List α} {f : α → List Value} {R : List Value → α → Prop} {mark : Nat → List Value}
    (h : Own w e sz v (l.length + 16) (l.flatMap f ++ (List.range 16).flatMap mark)) (hs : ∀ x ∈ l, (f x).length = sz) (hm : ∀ i, (mark i).length = sz) (hr : ∀ x ∈ l, R (f x) x) :
    ∃ p c, v = .slice p (l.length + 16) c ∧ l.length + 16 ≤ c ∧ LSl (memW w) sz R mark (.slice p l.length c) l := by
  obtain ⟨g, c, rfl, hc, hat⟩ := h.at (by omega)
  have hfl := flat_len f sz l hs
  refine ⟨_, c, rfl, hc, ⟨⟨g, c, rfl, hc, fun i x hx => ?_, fun i hi j u hj => ?_⟩⟩⟩
  · have hmem := List.mem_of_getElem? hx
    refine ⟨f x, hs x hmem, fun j u hj => ?_, hr x hmem⟩
    have h1 := flat_get f sz l i j x u hs hx hj
    have := hat _ u (by rw [List.getElem?_append_left (List.getElem?_eq_some_iff.1 h1).1]; exact h1)
    simpa [memW] using this
  · have h1 := flat_get mark sz (List.range 16) i j i u (fun x _ => hm x) (by simp [hi]) hj
    have := hat (l.length * sz + (i * sz + j)) u (by rw [List.getElem?_append_right (by omega), hfl]; simpa using h1)
    simp only [memW]
    rw [Nat.add_mul, Nat.add_assoc]
    simpa using this
end Go.V
namespace Go.V
open Go.RowKit
variable {P : Program}
/-! Memories put together. -/
def Low (m : Mem) (B : Nat) : Prop := ∀ b o v, m b o = some v → B ≤ b
def Off (m : Mem) (b : Nat) : Prop := ∀ o, m b o = none
def memG (w : World) (g : Nat) : Mem := fun b o => if b = g then w.cell? ⟨b, o, none⟩ else none
def Mem.and (m m' : Mem) : Mem := fun b o => (m b o).or (m' b o)
theorem Sub.memG (w : World) (g : Nat) : Sub (V.memG w g) w := fun b o v h => by
  unfold V.memG at h; split at h
  · exact h
  · cases h
theorem Low.memG {w : World} {g B : Nat} (h : B ≤ g) : Low (V.memG w g) B := fun b o v hv => by
  unfold V.memG at hv; split at hv
  · omega
  · cases hv
theorem Sub.and {m m' : Mem} {w : World} (h : Sub m w) (h' : Sub m' w) : Sub (m.and m') w := fun b o v hv => by
  unfold Mem.and at hv
  cases hm : m b o with
  | some u => rw [hm] at hv; simp at hv; subst hv; exact h _ _ _ hm
  | none => rw [hm] at hv; simp at hv; exact h' _ _ _ hv
theorem Low.and {m m' : Mem} {B : Nat} (h : Low m B) (h' : Low m' B) : Low (m.and m') B := fun b o v hv => by
  unfold Mem.and at hv
  cases hm : m b o with
  | some u => exact h _ _ _ hm
  | none => rw [hm] at hv; simp at hv; exact h' _ _ _ hv
theorem Low.mono {m : Mem} {B B' : Nat} (h : Low m B) (hB : B' ≤ B) : Low m B' := fun b o v hv => Nat.le_trans hB (h b o v hv)
theorem Off.and {m m' : Mem} {b : Nat} (h : Off m b) (h' : Off m' b) : Off (m.and m') b := fun o => by simp [Mem.and, h o, h' o]
theorem Off.of_low {m : Mem} {B b : Nat} (h : Low m B) (hb : b < B) : Off m b := fun o => by
  cases hm : m b o with
  | none => rfl
  | some v => have := h _ _ _ hm; omega
theorem Off.of_dom {m : Mem} {B b : Nat} (h : Dom m B) (hb : B ≤ b) : Off m b := fun o => by
  cases hm : m b o with
  | none => rfl
  | some v => have := h _ _ _ hm; omega
theorem Off.memG {w : World} {g b : Nat} (h : b ≠ g) : Off (V.memG w g) b := fun o => by simp [V.memG, h]
theorem and_left (m m' : Mem) : ∀ b o v, m b o = some v → (m.and m') b o = some v := fun b o v h => by simp [Mem.and, h]
theorem and_right {m m' : Mem} {w : World} (h : Sub m w) (h' : Sub m' w) : ∀ b o v, m' b o = some v → (m.and m') b o = some v := fun b o v hv => by
  unfold Mem.and
  cases hm : m b o with
  | none => simpa using hv
  | some u =>
    have h1 := h _ _ _ hm
    have h2 := h' _ _ _ hv
    rw [h1] at h2
    simpa using h2
theorem Sub.chg {m : Mem} {w w' : World} {b : Nat} (h : Sub m w) (c : Chg b w w') (ho : Off m b) : Sub m w' := fun b' o v hv => by
  have hne : b' ≠ b := fun e => by subst e; rw [ho o] at hv; cases hv
  rw [c.cell (a := ⟨b', o, none⟩) hne]; exact h _ _ _ hv
theorem Sub.grow {m : Mem} {w w' : World} {v v' : Value} (h : Sub m w) (g : Grow w w' v v') (ho : ∀ k, v.ownBlock = some k → Off m k) : Sub m w' := fun b o u hv => by
  have hlt := h.dom _ _ _ hv
  rw [World.cell?_of_block (w := w) (a := ⟨b, o, none⟩) (g.block b hlt (fun e => by have := ho b e.symm o; rw [this] at hv; cases hv))]
  exact h _ _ _ hv
theorem Grow.off {m : Mem} {w w' : World} {v v' : Value} (g : Grow w w' v v') (h : Sub m w) (ho : ∀ k, v.ownBlock = some k → Off m k) : ∀ k, v'.ownBlock = some k → Off m k := by
  intro k hk
  rcases g.new with h1 | h1
  · exact ho k (h1 ▸ hk)
  · exact .of_dom h.dom (h1 k hk).1
/-- Something is made in new memory. -/
structure Made (w : World) (Φ : Mem → Prop) (w' : World) : Prop where
  ext : Ext w w'
  mem : ∃ m, Sub m w' ∧ Low m w.heap.size ∧ Φ m
theorem Own.slG {α : Type} {w : World} {e sz : Nat} {v : Value} {l : List α} {f : α → List Value} {R : List Value → α → Prop} {g : Nat} (h : Own w e sz v l.length (l.flatMap f)) (hg : v.ownBlock = some g) (hs : ∀ x ∈ l, (f x).length = sz) (hr : ∀ x ∈ l, R (f x) x) : Sl (memG w g) sz R v l := by
  obtain ⟨p, c, rfl, hc⟩ := h.len
  refine ⟨⟨p, c, rfl, hc, fun i x hx => ?_⟩⟩
  obtain ⟨g', c', he, _, hat⟩ := h.at (Nat.lt_of_le_of_lt (Nat.zero_le _) (List.getElem?_eq_some_iff.1 hx).1)
  injection he with e1 _ _
  subst e1
  simp [Value.ownBlock] at hg
  subst hg
  have hmem := List.mem_of_getElem? hx
  exact ⟨g', 0, f x, rfl, hs x hmem, fun j u hj => (by have := hat _ u (flat_get f sz l i j x u hs hx hj); simpa [memG] using this), hr x hmem⟩
theorem Own.lslG {α : Type} {w : World} {e sz : Nat} {v : Value} {l : List α} {f : α → List Value} {R : List Value → α → Prop} {mark : Nat → List Value}
    (h : Own w e sz v (l.length + 16) (l.flatMap f ++ (List.range 16).flatMap mark)) (hs : ∀ x ∈ l, (f x).length = sz) (hm : ∀ i, (mark i).length = sz) (hr : ∀ x ∈ l, R (f x) x) :
    ∃ g c, v = .slice (some ⟨g, 0, none⟩) (l.length + 16) c ∧ l.length + 16 ≤ c ∧ LSl (memG w g) sz R mark (.slice (some ⟨g, 0, none⟩) l.length c) l := by
  obtain ⟨g, c, rfl, hc, hat⟩ := h.at (by omega)
  have hfl := flat_len f sz l hs
  refine ⟨g, c, rfl, hc, ⟨⟨g, c, rfl, hc, fun i x hx => ?_, fun i hi j u hj => ?_⟩⟩⟩
  · have hmem := List.mem_of_getElem? hx
    refine ⟨f x, hs x hmem, fun j u hj => ?_, hr x hmem⟩
    have h1 := flat_get f sz l i j x u hs hx hj
    have := hat _ u (by rw [List.getElem?_append_left (List.getElem?_eq_some_iff.1 h1).1]; exact h1)
    simpa [memG] using this
  · have h1 := flat_get mark sz (List.range 16) i j i u (fun x _ => hm x) (by simp [hi]) hj
    have := hat (l.length * sz + (i * sz + j)) u (by rw [List.getElem?_append_right (by omega), hfl]; simpa using h1)
    simp only [memG, if_true]
    rw [Nat.add_mul, Nat.add_assoc]
    simpa using this
/-- 'y := x; y.f = g(x.f); return y', for the last cell of a struct. -/
theorem r_field1 {t u n off f g : Nat} {pre : List Value} {v : Value} {s1 : Value} {w : World} {R : Value → World → Prop} {Φ : Value → Mem → Prop}
    (ha : aggB P t n = true) {z : List Value} (hz : zeroOf P t = some z) (hzn : z.length = n) (hsz : sizeB P t n = true) (hfl : fieldB P t f off = true) (hu : oneB P u = true) (hsu : sizeB P u 1 = true) (hg : plainFn P g = true)
    (hpre : pre.length = off) (hn : n = off + 1) (hone : ∀ x ∈ pre ++ [v], x.oneCell' = true)
    (hd : ∀ w1, Ext w w1 → Does P g [v] w1 fun v' w' => v'.oneCell' = true ∧ v'.cells = #[v'] ∧ Made w1 (Φ v') w')
    (hR : ∀ v' w', Made w (Φ v') w' → R (.agg (pre ++ [v']).toArray) w') :
    Run P (Instr.box t (.agg (pre ++ [v]).toArray)) w fun s_1 w1 =>
    Run P (Instr.alloc t true (.tuple #[])) w1 fun t2 w2 =>
    Run P (Instr.loadAt t s_1) w2 fun t4 w3 =>
    Run P (Instr.alloc t true (.tuple #[])) w3 fun x_3 w4 =>
    RunU P (Instr.storeAt t x_3 t4) w4 fun w5 =>
    Run P (Instr.fieldAt t s_1 f) w5 fun t5 w6 =>
    Run P (Instr.loadAt u t5) w6 fun t6 w7 =>
    GoN P (callFunc g #[t6]) w7 fun t7 w8 =>
    Run P (Instr.fieldAt t x_3 f) w8 fun t8 w9 =>
    RunU P (Instr.storeAt u t8 t7) w9 fun w10 =>
    Run P (Instr.loadAt t x_3) w10 fun t9 w11 =>
    RunU P (Instr.storeAt t t2 t9) w11 fun w12 =>
    resK P t2 t w12 fun r0 => R r0 w12 := by
  have hlen : (pre ++ [v]).length = n := by simp [hpre, hn]
  refine r_box fun w1 e1 z1 b1 => ?_
  have b1' : Blk w1 w.heap.size (pre ++ [v]) t := by simpa [Value.cells] using b1
  refine r_alloc hz fun w2 e2 z2 b2 => ?_
  have b1'' := b1'.ext e2
  rw [ldN b1'' ha (o := 0) (by simp [hpre, hn])]
  simp only [List.drop_zero]
  rw [show (pre ++ [v]).take n = pre ++ [v] from List.take_of_length_le (by omega)]
  refine r_alloc hz fun w3 e3 z3 b3 => ?_
  refine r_store hsz rfl (by simp [Value.cells, hpre, hn]) (by simpa [Value.cells] using hone) b3 (by omega) fun w4 c4 b4 => ?_
  have hx3 : w2.heap.size = w.heap.size + 2 := by omega
  have b1_4 : Blk w4 w.heap.size (pre ++ [v]) t := (b1''.ext e3).chg c4 (by omega)
  have b2_4 : Blk w4 w1.heap.size z t := (b2.ext e3).chg c4 (by omega)
  rw [Pure.run (p_field hfl), ld1 b1_4 hu (o := 0 + off) (v := v) (by simp [hpre])]
  have hb4 : Blk w4 w2.heap.size (pre ++ [v]) t := by
    have hs : splice z 0 (pre ++ [v]) = pre ++ [v] := by simp [splice, hpre, hzn, hn]
    simpa [Value.cells, hs] using b4
  have x4 : Ext w w4 := Ext.chg ((e1.trans e2).trans e3) c4 (by omega)
  have s4 : w4.heap.size = w.heap.size + 3 := by have := c4.size; omega
  refine GoN.does hg (hd w4 x4) ?_
  rintro v' w5 ⟨ho, hc, e5, m, hm, hlow, hΦ⟩
  have x5 : Ext w w5 := x4.trans e5
  rw [Pure.run (p_field hfl)]
  refine r_store hsu (by rw [hc]) rfl (by simpa using ho) (hb4.ext e5) (by simp [hpre]) fun w6 c6 b6 => ?_
  have hs6 : splice (pre ++ [v]) (0 + off) [v'] = pre ++ [v'] := by subst hpre; simp [splice]
  rw [hs6] at b6
  rw [ldN b6 ha (o := 0) (by simp [hpre, hn])]
  simp only [List.drop_zero]
  rw [show (pre ++ [v']).take n = pre ++ [v'] from List.take_of_length_le (by simp; omega)]
  refine r_store hsz rfl (by simp [Value.cells, hpre, hn]) (fun x hx => by
    simp only [Value.cells, List.mem_append, List.mem_singleton] at hx
    rcases hx with hx | hx
    · exact hone x (by simp [hx])
    · subst hx; exact ho) ((b2_4.ext e5).chg c6 (by omega)) (by omega) fun w7 c7 b7 => ?_
  have hs7 : splice z 0 (pre ++ [v']) = pre ++ [v'] := by simp [splice, hpre, hzn, hn]
  have b7' : Blk w7 w1.heap.size (pre ++ [v']) t := by simpa [Value.cells, hs7] using b7
  refine k_loadN ha (l := pre ++ [v']) (by simp [hpre, hn]) (by have := b7'.at; exact this) ?_
  refine hR v' w7 ⟨(Ext.chg (Ext.chg x5 c6 (by omega)) c7 (by omega)), m, ?_, hlow.mono (by omega), hΦ⟩
  exact (hm.chg c6 (.of_low hlow (by omega))).chg c7 (.of_low hlow (by omega))
end Go.V
