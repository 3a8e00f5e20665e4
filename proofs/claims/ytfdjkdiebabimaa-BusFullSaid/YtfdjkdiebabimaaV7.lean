/- The rules on memory: blocks of a call's own, cells that are read, rows that grow. Conditions: none. -/
import Derived.Test.YtfdjkdiebabimaaV6
set_option linter.unusedVariables false
set_option linter.unusedSimpArgs false
namespace Go.V
open Go.RowKit
variable {P : Program}

/-! Cells. -/
def At (w : World) (b o : Nat) (l : List Value) : Prop := ∀ j u, l[j]? = some u → w.cell? ⟨b, o + j, none⟩ = some u
theorem cell_ext {w w' : World} {a : Addr} {v : Value} (h : w.cell? a = some v) (e : Ext w w') : w'.cell? a = some v := by
  rw [Below.cell e (World.block_lt_of_cell? w a h)]; exact h
theorem At.ext {w w' : World} {b o : Nat} {l : List Value} (h : At w b o l) (e : Ext w w') : At w' b o l := fun j u hj => cell_ext (h j u hj) e
theorem At.one {w : World} {b o : Nat} {v : Value} (h : w.cell? ⟨b, o, none⟩ = some v) : At w b o [v] := by
  intro j u hj
  match j, hj with
  | 0, hj => simp at hj; subst hj; simpa using h
theorem At.get {w : World} {b o : Nat} {l : List Value} (h : At w b o l) {j k : Nat} {u : Value} (hj : l[j]? = some u) (hk : k = o + j) : w.cell? ⟨b, k, none⟩ = some u := by subst hk; exact h j u hj
theorem At.sub {w : World} {b o : Nat} {l : List Value} (h : At w b o l) (i n : Nat) : At w b (o + i) ((l.drop i).take n) := by
  intro j u hj
  rw [List.getElem?_take] at hj
  split at hj
  · rw [List.getElem?_drop] at hj
    have := h (i + j) u hj
    rwa [← Nat.add_assoc] at this
  · cases hj

/-! Types. -/
def oneB (P : Program) (t : TypeId) : Bool :=
  match P.underlying t with
  | some (.struct _) | some (.array _ _) | none => false
  | some _ => true
def aggB (P : Program) (t : TypeId) (n : Nat) : Bool :=
  (match P.underlying t with
  | some (.struct _) | some (.array _ _) => true
  | _ => false) && (match P.info? t with | some i => i.size == n | none => false)
def sizeB (P : Program) (t : TypeId) (n : Nat) : Bool :=
  match P.info? t with
  | some i => i.size == n
  | none => false
def zeroOf (P : Program) (t : TypeId) : Option (List Value) := ((P.info? t).bind (·.zero)).map fun v => v.cells.toList
def fieldB (P : Program) (s f off : Nat) : Bool :=
  match P.underlying s with
  | some (.struct fs) =>
    match fs[f]? with
    | some fd => fd.offset == off && (match P.info? fd.type with | some i => !(i.size == 0) | none => false)
    | none => false
  | _ => false
theorem size_of {t n : Nat} (h : sizeB P t n = true) (w : World) : (sizeOf t).run P w = .ok n w := by
  unfold sizeB at h
  split at h
  · rename_i i hi
    simp only [beq_iff_eq] at h
    simp [sizeOf, typeInfo, program, Sem.run_bind, Sem.run, hi, Result.andThen, pure, h]
  · cases h
theorem size_info {t n : Nat} (h : sizeB P t n = true) : ∃ i, P.info? t = some i ∧ i.size = n := by
  unfold sizeB at h
  split at h
  · rename_i i hi; exact ⟨i, hi, by simpa using h⟩
  · cases h

/-! Reading. -/
theorem isAgg_one {t : TypeId} (h : oneB P t = true) (w : World) : (isAgg t).run P w = .ok false w := by
  unfold oneB at h
  unfold isAgg
  cases hu : P.underlying t with
  | none => rw [hu] at h; cases h
  | some d =>
    rw [hu] at h
    cases d <;> simp_all [underlying, program, Sem.run_bind, Sem.run, Result.andThen, pure]
theorem isAgg_agg {t n : Nat} (h : aggB P t n = true) (w : World) : (isAgg t).run P w = .ok true w ∧ sizeB P t n = true := by
  unfold aggB at h
  simp only [Bool.and_eq_true] at h
  refine ⟨?_, h.2⟩
  have h1 := h.1
  unfold isAgg
  cases hu : P.underlying t with
  | none => rw [hu] at h1; cases h1
  | some d =>
    rw [hu] at h1
    cases d <;> simp_all [underlying, program, Sem.run_bind, Sem.run, Result.andThen, pure]
theorem run_load1 {t b o : Nat} {v : Value} {w : World} (ht : oneB P t = true) (h : w.cell? ⟨b, o, none⟩ = some v) : (Instr.loadAt t (.pointer (some ⟨b, o, none⟩))).run P w = .ok v w := by
  simp [Instr.loadAt, Instr.sureAddr, loadVar, Sem.run_bind, isAgg_one ht, Result.andThen, pure, Sem.run, load, h]
theorem run_loadN {t n b o : Nat} {l : List Value} {w : World} (ht : aggB P t n = true) (hl : l.length = n) (h : At w b o l) : (Instr.loadAt t (.pointer (some ⟨b, o, none⟩))).run P w = .ok (.agg l.toArray) w := by
  obtain ⟨h1, h2⟩ := isAgg_agg ht w
  have h3 := run_loadCells_list (P := P) w ⟨b, o, none⟩ l (fun j v hv => by rw [Addr.add_lit]; exact h j v hv)
  rw [hl] at h3
  simp [Instr.loadAt, Instr.sureAddr, loadVar, Sem.run_bind, h1, size_of h2, Result.andThen, pure, Sem.run, h3]
theorem r_load1 {t b o : Nat} {v : Value} {w : World} {K : Value → World → Prop} (ht : oneB P t = true) (h : w.cell? ⟨b, o, none⟩ = some v) (k : K v w) : Run P (Instr.loadAt t (.pointer (some ⟨b, o, none⟩))) w K := .of (run_load1 ht h) k
theorem r_loadN {t n b o : Nat} {l : List Value} {w : World} {K : Value → World → Prop} (ht : aggB P t n = true) (hl : l.length = n) (h : At w b o l) (k : K (.agg l.toArray) w) : Run P (Instr.loadAt t (.pointer (some ⟨b, o, none⟩))) w K := .of (run_loadN ht hl h) k
theorem q_load1 {t b o : Nat} {v : Value} {w : World} {K : Value → Prop} (ht : oneB P t = true) (h : w.cell? ⟨b, o, none⟩ = some v) (k : K v) : RunQ P (Instr.loadAt t (.pointer (some ⟨b, o, none⟩))) w K := ⟨v, fun w1 e => run_load1 ht (cell_ext h e), k⟩
theorem q_loadN {t n b o : Nat} {l : List Value} {w : World} {K : Value → Prop} (ht : aggB P t n = true) (hl : l.length = n) (h : At w b o l) (k : K (.agg l.toArray)) : RunQ P (Instr.loadAt t (.pointer (some ⟨b, o, none⟩))) w K := ⟨_, fun w1 e => run_loadN ht hl (h.ext e), k⟩
theorem k_load1 {t b o : Nat} {v : Value} {w : World} {K : Value → Prop} (ht : oneB P t = true) (h : w.cell? ⟨b, o, none⟩ = some v) (k : K v) : resK P (.pointer (some ⟨b, o, none⟩)) t w K := ⟨v, run_load1 ht h, k⟩
theorem k_loadN {t n b o : Nat} {l : List Value} {w : World} {K : Value → Prop} (ht : aggB P t n = true) (hl : l.length = n) (h : At w b o l) (k : K (.agg l.toArray)) : resK P (.pointer (some ⟨b, o, none⟩)) t w K := ⟨_, run_loadN ht hl h, k⟩

/-! Addresses. -/
theorem p_field {s f off b o : Nat} (h : fieldB P s f off = true) : Pure P (Instr.fieldAt s (.pointer (some ⟨b, o, none⟩)) f) (.pointer (some ⟨b, o + off, none⟩)) := fun w => by
  unfold fieldB at h
  split at h
  · rename_i fs hu
    split at h
    · rename_i fd hf
      simp only [Bool.and_eq_true, beq_iff_eq] at h
      obtain ⟨h1, h2⟩ := h
      split at h2
      · rename_i i hi
        have h3 : ¬ i.size = 0 := by simpa using h2
        have h4 := size_of (P := P) (t := fd.type) (n := i.size) (by simp [sizeB, hi]) w
        simp [Instr.fieldAt, Instr.sureAddr, fieldPlace, Sem.run_bind, run_underlying hu, hf, h4, h3, Result.andThen, pure, Sem.run, Addr.add_lit, h1]
      · cases h2
    · cases h
  · cases h
theorem p_idx {t e sz b o n c : Nat} {k : IntKind} {i : Int} (ht : P.underlying t = some (.slice e)) (he : sizeB P e sz = true) (h0 : 0 ≤ i) (h1 : i < n) :
    Pure P (Instr.indexAt t (.slice (some ⟨b, o, none⟩) n c) (.int k i)) (.pointer (some ⟨b, o + i.toNat * sz, none⟩)) := fun w => by
  simp [Instr.indexAt, asIntOf, Sem.run_bind, run_underlying ht, size_of he, Result.andThen, pure, Sem.run, h0, h1, Addr.add_lit]
theorem p_len {t e ty n c : Nat} {p : Option Addr} (ht : P.underlying t = some (.slice e)) : Pure P (Builtin.len_ #[t] ty #[.slice p n c]) (.int .i64 n) := fun w => by
  simp [Builtin.len_, Sem.run_bind, run_underlying ht, Result.andThen, pure, Sem.run, goInt]
theorem p_lens {t ty : Nat} {s : ByteArray} (ht : P.underlying t = some .string) : Pure P (Builtin.len_ #[t] ty #[.string s]) (.int .i64 s.size) := fun w => by
  simp [Builtin.len_, Sem.run_bind, run_underlying ht, Result.andThen, pure, Sem.run, goInt]
theorem p_cap {t e ty n c : Nat} {p : Option Addr} (ht : P.underlying t = some (.slice e)) : Pure P (Builtin.cap_ #[t] ty #[.slice p n c]) (.int .i64 c) := fun w => by
  simp [Builtin.cap_, Sem.run_bind, run_underlying ht, Result.andThen, pure, Sem.run, goInt]
/-- 's[:h]'. -/
theorem p_upto {t e sz n c : Nat} {p : Option Addr} {k : IntKind} {h : Int} (ht : P.underlying t = some (.slice e)) (he : sizeB P e sz = true) (h0 : 0 ≤ h) (h1 : h ≤ c) :
    Pure P (Instr.sliceAt t (.slice p n c) none (some (.int k h)) none) (.slice p h.toNat c) := fun w => by
  have ha : p.map (·.add 0) = p := by cases p <;> simp [Addr.add]
  simp [Instr.sliceAt, Instr.slice, Instr.sliceBounds, Instr.sliceBound, asIntOf, Sem.run_bind, run_underlying ht, size_of he, Result.andThen, pure, Sem.run, h0, h1, ha]
theorem p_iface {t : TypeId} {v : Value} {d : TypeDesc} (ht : P.underlying t = some d) (hd : ∀ ms, d ≠ .interface ms) : Pure P (Instr.makeInterface t v) (.iface t v) := fun w => by
  cases d <;> simp_all [Instr.makeInterface, Sem.run_bind, run_underlying ht, Result.andThen, pure, Sem.run]

/-! Worlds that part in one block. -/
structure Chg (b : Nat) (w w' : World) : Prop where
  os : w'.os = w.os
  tape : w'.tape = w.tape
  output : w'.output = w.output
  size : w'.heap.size = w.heap.size
  block : ∀ k, k ≠ b → w'.heap[k]? = w.heap[k]?
theorem Chg.below {b B : Nat} {w w' : World} (h : Chg b w w') (hB : B ≤ b) : Below B w w' := ⟨h.os, h.tape, h.output, Nat.le_of_eq h.size.symm, fun k hk => h.block k (by omega)⟩
theorem Chg.cell {b : Nat} {w w' : World} (h : Chg b w w') {a : Addr} (ha : a.block ≠ b) : w'.cell? a = w.cell? a := World.cell?_of_block (h.block _ ha)
/-- Block b is a row of these cells. -/
def Blk (w : World) (b : Nat) (l : List Value) (t : TypeId) : Prop := w.heap[b]? = some (.cells l.toArray t (0, 0))
theorem Blk.lt {w : World} {b : Nat} {l : List Value} {t : TypeId} (h : Blk w b l t) : b < w.heap.size := (Array.getElem?_eq_some_iff.1 h).1
theorem Blk.ext {w w' : World} {b : Nat} {l : List Value} {t : TypeId} (h : Blk w b l t) (e : Ext w w') : Blk w' b l t := (e.block b h.lt).trans h
theorem Blk.below {w w' : World} {B b : Nat} {l : List Value} {t : TypeId} (h : Blk w b l t) (e : Below B w w') (hb : b < B) : Blk w' b l t := (e.block b hb).trans h
theorem Blk.chg {w w' : World} {b b' : Nat} {l : List Value} {t : TypeId} (h : Blk w b l t) (e : Chg b' w w') (hne : b ≠ b') : Blk w' b l t := (e.block b hne).trans h
theorem Blk.at {w : World} {b : Nat} {l : List Value} {t : TypeId} (h : Blk w b l t) : At w b 0 l := by
  intro j u hj
  rw [cell_of_row w b (0 + j) l.toArray t (0, 0) h]
  simpa using hj
theorem Blk.get {w : World} {b j : Nat} {l : List Value} {t : TypeId} {u : Value} (h : Blk w b l t) (hj : l[j]? = some u) : w.cell? ⟨b, j, none⟩ = some u := by
  have := h.at j u hj
  simpa using this
theorem Ext.chg {w w1 w2 : World} {b : Nat} (h : Ext w w1) (k : Chg b w1 w2) (hb : w.heap.size ≤ b) : Ext w w2 := Below.trans h (k.below hb)
theorem Below.chg {B : Nat} {w w1 w2 : World} {b : Nat} (h : Below B w w1) (k : Chg b w1 w2) (hb : B ≤ b) : Below B w w2 := Below.trans h (k.below hb)
theorem Below.ext {B : Nat} {w w1 w2 : World} (h : Below B w w1) (k : Ext w1 w2) (hb : B ≤ w1.heap.size) : Below B w w2 := Below.trans h (Below.mono k hb)

/-! New blocks. -/
theorem alloc_ext (w : World) (o : Obj) : Ext w (w.alloc o) := (Below.refl _ _).alloc (Nat.le_refl _) o
theorem run_newRow (t : TypeId) (c : Array Value) (w : World) : (newRow t c).run P w = .ok ⟨w.heap.size, 0, none⟩ (w.alloc (.cells c t)) := rfl
theorem r_alloc {t : TypeId} {l : List Value} {w : World} {K : Value → World → Prop} (hz : zeroOf P t = some l)
    (k : ∀ w', Ext w w' → w'.heap.size = w.heap.size + 1 → Blk w' w.heap.size l t → K (.pointer (some ⟨w.heap.size, 0, none⟩)) w') : Run P (Instr.alloc t true (.tuple #[])) w K := by
  unfold zeroOf at hz
  obtain ⟨v, hv, hl⟩ := Option.map_eq_some_iff.1 hz
  obtain ⟨i, hi, hz⟩ := Option.bind_eq_some_iff.1 hv
  refine .of (v := .pointer (some ⟨w.heap.size, 0, none⟩)) (w' := w.alloc (.cells v.cells t)) ?_ (k _ (alloc_ext _ _) (by simp) ?_)
  · simp [Instr.alloc, zeroValue, typeInfo, program, Sem.run_bind, Sem.run, hi, hz, Result.andThen, pure, newVar, run_newRow]
  · unfold Blk
    rw [heap_alloc_new, ← hl]
theorem r_box {t : TypeId} {v : Value} {w : World} {K : Value → World → Prop}
    (k : ∀ w', Ext w w' → w'.heap.size = w.heap.size + 1 → Blk w' w.heap.size v.cells.toList t → K (.pointer (some ⟨w.heap.size, 0, none⟩)) w') : Run P (Instr.box t v) w K := by
  refine .of (v := .pointer (some ⟨w.heap.size, 0, none⟩)) (w' := w.alloc (.cells v.cells t)) ?_ (k _ (alloc_ext _ _) (by simp) ?_)
  · simp [Instr.box, Sem.run_bind, Sem.run, Result.andThen, pure, newVar, run_newRow]
  · unfold Blk
    rw [heap_alloc_new]

/-! Storing. -/
def splice (cs : List Value) (o : Nat) (l : List Value) : List Value := cs.take o ++ l ++ cs.drop (o + l.length)
theorem length_splice (cs : List Value) (o : Nat) (l : List Value) (h : o + l.length ≤ cs.length) : (splice cs o l).length = cs.length := by
  unfold splice; simp; omega
theorem r_store {t u b o n : Nat} {cs l : List Value} {v : Value} {w : World} {K : World → Prop} (ht : sizeB P t n = true) (hv : v.cells.toList = l) (hn : l.length = n) (h1 : ∀ x ∈ l, x.oneCell' = true)
    (hb : Blk w b cs u) (ho : o + n ≤ cs.length) (k : ∀ w', Chg b w w' → Blk w' b (splice cs o l) u → K w') : RunU P (Instr.storeAt t (.pointer (some ⟨b, o, none⟩)) v) w K := by
  have hst := run_storeCells_at P b o u l 0 cs.toArray w hb (by simpa [hn] using ho) h1
  have hsz : v.cells.size = n := by rw [← Array.length_toList, hv, hn]
  refine ⟨w.setRow b (splice cs o l).toArray, ?_, k _ ⟨rfl, rfl, rfl, by simp, fun j hj => setRow_other w b j _ hj⟩ (setRow_heap w b _ _ u _ hb)⟩
  simp only [Nat.add_zero] at hst
  simp [Instr.storeAt, Instr.sureAddr, storeVar, Sem.run_bind, size_of ht, Result.andThen, pure, Sem.run, hsz, hv, hst, splice]

/-! Rows that grow. -/
structure SlT (P : Program) (t e sz bytes : Nat) : Prop where
  slice : P.underlying t = some (.slice e)
  info : ∃ i z, P.info? e = some i ∧ i.zero = some z ∧ i.size = sz ∧ i.bytes = bytes ∧ z.cells.size = sz
  pos : 0 < sz
  small : sz ≤ 16777216
def slB (P : Program) (t e sz bytes : Nat) : Bool :=
  (match P.underlying t with | some (.slice e') => e' == e | _ => false) &&
  (match P.info? e with
   | some i => i.size == sz && i.bytes == bytes && (match i.zero with | some z => z.cells.size == sz | none => false)
   | none => false) && decide (0 < sz) && decide (sz ≤ 16777216)
theorem SlT.of {t e sz bytes : Nat} (h : slB P t e sz bytes = true) : SlT P t e sz bytes := by
  unfold slB at h
  simp only [Bool.and_eq_true, decide_eq_true_eq] at h
  obtain ⟨⟨⟨h1, h2⟩, h3⟩, h4⟩ := h
  refine ⟨?_, ?_, h3, h4⟩
  · split at h1
    · rename_i e' hu; rw [hu]; simp only [beq_iff_eq] at h1; rw [h1]
    · cases h1
  · split at h2
    · rename_i i hi
      simp only [Bool.and_eq_true, beq_iff_eq] at h2
      obtain ⟨⟨a, b⟩, c⟩ := h2
      split at c
      · rename_i z hz
        exact ⟨i, z, hi, hz, a, b, by simpa using c⟩
      · cases c
    · cases h2
theorem SlT.size {t e sz bytes : Nat} (h : SlT P t e sz bytes) : sizeB P e sz = true := by
  obtain ⟨i, z, hi, _, hs, _⟩ := h.info
  simp [sizeB, hi, hs]
/-- A literal of one element, 't{x}'. -/
theorem run_build1 {t e sz bytes : Nat} (ht : SlT P t e sz bytes) {x : Value} (hx : x.cells.size = sz) (w : World) :
    (Instr.buildSlice t 1 #[(0, x)]).run P w = .ok (.slice (some ⟨w.heap.size, 0, none⟩) 1 1) (w.alloc (.cells x.cells e)) := by
  obtain ⟨i, z, hi, hz, hs, _, hzs⟩ := ht.info
  have h2 : ¬ sz > 16777216 := by have := ht.small; omega
  have h3 : ¬ sz = 0 := by have := ht.pos; omega
  have hfill : ∀ (a : Array Value), a.size = sz → Instr.fill (fun i => some (i * sz, sz)) a [(0, x)] = some x.cells := by
    intro a ha
    simp only [Instr.fill, hx, Nat.zero_mul, Nat.zero_add, ha, ne_eq, not_true_eq_false, decide_false, gt_iff_lt, Nat.lt_irrefl, Bool.or_self, Bool.false_eq_true, if_false, Option.some.injEq]
    apply Array.ext_getElem?
    intro j
    have key : ∀ (l : List (Value × Nat)) (a : Array Value) (j : Nat), ((l.foldl (fun cs p => cs.setIfInBounds p.2 p.1) a)[j]?) = match l.reverse.find? (fun p => p.2 == j) with
        | some p => if j < a.size then some p.1 else none
        | none => a[j]? := by
      intro l
      induction l with
      | nil => intro a j; simp
      | cons p l ih =>
        intro a j
        simp only [List.foldl_cons, List.reverse_cons, List.find?_append]
        rw [ih]
        cases hfind : l.reverse.find? (fun p => p.2 == j) with
        | some q => simp
        | none =>
          simp only [Option.none_or]
          by_cases hp : p.2 = j
          · subst hp
            simp [Array.getElem?_setIfInBounds]
          · simp [Array.getElem?_setIfInBounds, hp]
    have := key x.cells.zipIdx.toList a j
    rw [Array.foldl_toList] at this
    refine this.trans ?_
    by_cases hj : j < sz
    · have hmem : (x.cells[j]'(by omega), j) ∈ x.cells.zipIdx.toList := by
        rw [Array.mem_toList_iff, Array.mem_iff_getElem?]
        exact ⟨j, by simp [hx, hj]⟩
      cases hfind : x.cells.zipIdx.toList.reverse.find? (fun p => p.2 == j) with
      | some q =>
        have h1 := List.find?_some hfind
        have h2 := List.mem_of_find?_eq_some hfind
        simp only [beq_iff_eq] at h1
        rw [List.mem_reverse, Array.mem_toList_iff, Array.mem_iff_getElem?] at h2
        obtain ⟨m, hm⟩ := h2
        simp only [Array.getElem?_zipIdx, Nat.zero_add, Option.map_eq_some_iff] at hm
        obtain ⟨y, hy, hq⟩ := hm
        subst hq
        simp only at h1
        subst h1
        simp [ha, hj, hy]
      | none =>
        have := List.find?_eq_none.1 hfind _ (List.mem_reverse.2 hmem)
        simp at this
    · have hx' : x.cells[j]? = none := by simp [hx]; omega
      rw [hx']
      split
      · simp [ha, hj]
      · simp [ha]; omega
  simp only [Instr.buildSlice, Sem.run_bind, run_underlying ht.slice, size_of ht.size, Result.andThen_ok, Nat.one_mul, h2, if_false, h3, zeroValue, typeInfo, program, Sem.run, hi, hz, pure, Sem.pure]
  have hf := hfill ((Array.range sz).map (z.cells[· % z.cells.size]!)) (by simp)
  simp [Sem.run_bind, Sem.run, hi, hz, hf, run_newRow, Result.andThen, pure]
end Go.V
