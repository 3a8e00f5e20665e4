/- More rules: numbers bit by bit, slices made, copied and cut, functions bound to values, worlds that part in some blocks. Conditions: none. -/
import Derived.Test.YtfdjkdiebabimaaV11
import Derived.Laws.MakeOwn
import Derived.Laws.CopyRow
set_option linter.unusedVariables false
set_option linter.unusedSimpArgs false
namespace Go.V
open Go.RowKit
variable {P : Program}

/-! Worlds that part in the blocks of S, and by new ones. -/
structure Mod (S : List Nat) (w w' : World) : Prop where
  os : w'.os = w.os
  tape : w'.tape = w.tape
  output : w'.output = w.output
  size : w.heap.size ≤ w'.heap.size
  block : ∀ k, k < w.heap.size → k ∉ S → w'.heap[k]? = w.heap[k]?
theorem Mod.refl (S : List Nat) (w : World) : Mod S w w := ⟨rfl, rfl, rfl, Nat.le_refl _, fun _ _ _ => rfl⟩
theorem Mod.ext {S : List Nat} {w w' : World} (e : Ext w w') : Mod S w w' := ⟨e.os, e.tape, e.output, e.size, fun k hk _ => e.block k hk⟩
theorem Mod.chg {S : List Nat} {w w' : World} {b : Nat} (c : Chg b w w') (hb : b ∈ S) : Mod S w w' := ⟨c.os, c.tape, c.output, Nat.le_of_eq c.size.symm, fun k _ hk => c.block k fun e => hk (e ▸ hb)⟩
theorem Mod.trans {S : List Nat} {a b c : World} (h : Mod S a b) (k : Mod S b c) : Mod S a c :=
  ⟨k.os.trans h.os, k.tape.trans h.tape, k.output.trans h.output, Nat.le_trans h.size k.size, fun j hj hn => (k.block j (Nat.lt_of_lt_of_le hj h.size) hn).trans (h.block j hj hn)⟩
theorem Mod.mono {S T : List Nat} {w w' : World} (h : Mod S w w') (hs : ∀ k ∈ S, k ∈ T) : Mod T w w' := ⟨h.os, h.tape, h.output, h.size, fun k hk hn => h.block k hk fun hh => hn (hs k hh)⟩
/-- New blocks may be turned at will. -/
theorem Mod.new {S : List Nat} {w w' : World} (h : Mod S w w') (hs : ∀ k ∈ S, w.heap.size ≤ k) : Ext w w' := ⟨h.os, h.tape, h.output, h.size, fun k hk => h.block k hk fun hh => by have := hs k hh; omega⟩
theorem Mod.newS {S T : List Nat} {w0 w w' : World} (h : Mod S w0 w) (h' : Mod T w w') (hs : ∀ k ∈ T, k ∈ S ∨ w0.heap.size ≤ k) : Mod S w0 w' :=
  ⟨h'.os.trans h.os, h'.tape.trans h.tape, h'.output.trans h.output, Nat.le_trans h.size h'.size, fun j hj hn => (h'.block j (Nat.lt_of_lt_of_le hj h.size) fun hh => by rcases hs j hh with h1 | h1; exact hn h1; omega).trans (h.block j hj hn)⟩
theorem Mod.below {S : List Nat} {w w' : World} {B : Nat} (h : Mod S w w') (hB : B ≤ w.heap.size) (hs : ∀ k ∈ S, B ≤ k) : Below B w w' := ⟨h.os, h.tape, h.output, h.size, fun k hk => h.block k (by omega) fun hh => by have := hs k hh; omega⟩
theorem Blk.mod {S : List Nat} {w w' : World} {b : Nat} {l : List Value} {t : TypeId} (h : Blk w b l t) (m : Mod S w w') (hb : b ∉ S) : Blk w' b l t := (m.block b h.lt hb).trans h
theorem Own.mod {S : List Nat} {w w' : World} {e sz n : Nat} {v : Value} {xs : List Value} (h : Own w e sz v n xs) (m : Mod S w w') (hb : ∀ k, v.ownBlock = some k → k ∉ S) : Own w' e sz v n xs := h.keep fun k hk => m.block k (h.lt hk) (hb k hk)

/-! Numbers, bit by bit. -/
def natK (k : IntKind) (n : Nat) : Value := .int k (n : Int)
theorem ofInt_nat (w n : Nat) : BitVec.ofInt w (n : Int) = BitVec.ofNat w n := by
  apply BitVec.eq_of_toNat_eq
  simp [BitVec.toNat_ofInt]
theorem wrap_nat {k : IntKind} {n : Nat} (hk : k = .u8 ∨ k = .u16 ∨ k = .u32 ∨ k = .u64) (h : n < 2 ^ k.bits) : k.wrap (n : Int) = n := by
  rcases hk with rfl | rfl | rfl | rfl <;> simp [IntKind.wrap, IntKind.bits, IntKind.signed] at h ⊢ <;> omega
theorem p_and {T : TypeId} {x y : Operand} {k : IntKind} {a b : Nat} (hk : k = .u8 ∨ k = .u16 ∨ k = .u32 ∨ k = .u64) (ha : a < 2 ^ k.bits) (hb : b < 2 ^ k.bits) : Pure P (binSem .and T x y (.int k a) (.int k b)) (.int k ((a &&& b : Nat) : Int)) := fun w => by
  have h : (BitVec.ofNat k.bits a &&& BitVec.ofNat k.bits b).toNat = a &&& b := by
    rw [BitVec.toNat_and, BitVec.toNat_ofNat, BitVec.toNat_ofNat, Nat.mod_eq_of_lt ha, Nat.mod_eq_of_lt hb]
  have hl : a &&& b < 2 ^ k.bits := Nat.lt_of_le_of_lt Nat.and_le_left ha
  simp [binSem, eqGuard, binOp, Op.intBits, Sem.run_bind, pure, Sem.run, Result.andThen, ofInt_nat, h, wrap_nat hk hl]
theorem p_or {T : TypeId} {x y : Operand} {k : IntKind} {a b : Nat} (hk : k = .u8 ∨ k = .u16 ∨ k = .u32 ∨ k = .u64) (ha : a < 2 ^ k.bits) (hb : b < 2 ^ k.bits) : Pure P (binSem .or T x y (.int k a) (.int k b)) (.int k ((a ||| b : Nat) : Int)) := fun w => by
  have h : (BitVec.ofNat k.bits a ||| BitVec.ofNat k.bits b).toNat = a ||| b := by
    rw [BitVec.toNat_or, BitVec.toNat_ofNat, BitVec.toNat_ofNat, Nat.mod_eq_of_lt ha, Nat.mod_eq_of_lt hb]
  have hl : a ||| b < 2 ^ k.bits := Nat.or_lt_two_pow ha hb
  simp [binSem, eqGuard, binOp, Op.intBits, Sem.run_bind, pure, Sem.run, Result.andThen, ofInt_nat, h, wrap_nat hk hl]
theorem p_xor {T : TypeId} {x y : Operand} {k : IntKind} {a b : Nat} (hk : k = .u8 ∨ k = .u16 ∨ k = .u32 ∨ k = .u64) (ha : a < 2 ^ k.bits) (hb : b < 2 ^ k.bits) : Pure P (binSem .xor T x y (.int k a) (.int k b)) (.int k ((a ^^^ b : Nat) : Int)) := fun w => by
  have h : (BitVec.ofNat k.bits a ^^^ BitVec.ofNat k.bits b).toNat = a ^^^ b := by
    rw [BitVec.toNat_xor, BitVec.toNat_ofNat, BitVec.toNat_ofNat, Nat.mod_eq_of_lt ha, Nat.mod_eq_of_lt hb]
  have hl : a ^^^ b < 2 ^ k.bits := Nat.xor_lt_two_pow ha hb
  simp [binSem, eqGuard, binOp, Op.intBits, Sem.run_bind, pure, Sem.run, Result.andThen, ofInt_nat, h, wrap_nat hk hl]
theorem p_shlN {T : TypeId} {x y : Operand} {k k' : IntKind} {a n : Nat} (hk : k = .u8 ∨ k = .u16 ∨ k = .u32 ∨ k = .u64) (hn : n ≤ k.bits) : Pure P (binSem .shl T x y (.int k a) (.int k' (n : Int))) (.int k ((a * 2 ^ n % 2 ^ k.bits : Nat) : Int)) := fun w => by
  have h : k.wrap ((a : Int) * 2 ^ n) = ((a * 2 ^ n % 2 ^ k.bits : Nat) : Int) := by
    rw [show (a : Int) * 2 ^ n = ((a * 2 ^ n : Nat) : Int) by push_cast; rfl]
    rcases hk with rfl | rfl | rfl | rfl <;> simp [IntKind.wrap, IntKind.bits, IntKind.signed]
  have hm : min n k.bits = n := by omega
  have h0 : ¬ ((n : Int) < 0) := by omega
  simp [binSem, eqGuard, binOp, Op.shift, Sem.run_bind, pure, Sem.run, Result.andThen, h, hm]
  intro hh; omega
theorem p_shrN {T : TypeId} {x y : Operand} {k k' : IntKind} {a n : Nat} (hn : n ≤ k.bits) : Pure P (binSem .shr T x y (.int k a) (.int k' (n : Int))) (.int k ((a >>> n : Nat) : Int)) := fun w => by
  have hm : min n k.bits = n := by omega
  have h : (a : Int).fdiv (2 ^ n) = ((a >>> n : Nat) : Int) := by
    rw [Nat.shiftRight_eq_div_pow, show (2 : Int) ^ n = ((2 ^ n : Nat) : Int) by push_cast; rfl, Int.fdiv_eq_ediv_of_nonneg _ (by exact_mod_cast Nat.zero_le _)]
    norm_cast
  simp [binSem, eqGuard, binOp, Op.shift, Sem.run_bind, pure, Sem.run, Result.andThen, hm, h]
  intro hh; omega
theorem p_quo {T : TypeId} {x y : Operand} {k : IntKind} {a b : Int} (hb : b ≠ 0) : Pure P (binSem .quo T x y (.int k a) (.int k b)) (.int k (k.wrap (a.tdiv b))) := fun w => by
  simp [binSem, eqGuard, binOp, Op.intDiv, hb, Sem.run_bind, pure, Sem.run, Result.andThen]
theorem p_rem' {T : TypeId} {x y : Operand} {k : IntKind} {a b : Int} (hb : b ≠ 0) : Pure P (binSem .rem T x y (.int k a) (.int k b)) (.int k (a.tmod b)) := fun w => by
  simp [binSem, eqGuard, binOp, Op.intDiv, hb, Sem.run_bind, pure, Sem.run, Result.andThen]
theorem p_nilf {v : Value} : Pure P (nilSem (.iface 0 v)) (.iface 0 v) := fun w => by simp [nilSem, pure, Sem.run]
theorem Pure.g {s : Sem Value} {v : Value} {E : World → Prop} {K : Value → Prop} (h : Pure P s v) (k : K v) : RunG P s E K := ⟨v, fun w1 _ => h w1, k⟩

theorem CondP.via {b : Bool} {A B : NF 1 → Prop} {K : NF 1} (I : Value → World → Prop) (hk : ∀ v w', I v w' → K v w') (h1 : b = true → ∀ K' : NF 1, (∀ v w', I v w' → K' v w') → A K') (h2 : b = false → ∀ K' : NF 1, (∀ v w', I v w' → K' v w') → B K') : CondP (.bool b) 1 A B K :=
  CondP.of (fun h => h1 h K hk) (fun h => h2 h K hk)
theorem CondP.via0 {b : Bool} {A B : NF 0 → Prop} {K : NF 0} (I : World → Prop) (hk : ∀ w', I w' → K w') (h1 : b = true → ∀ K' : NF 0, (∀ w', I w' → K' w') → A K') (h2 : b = false → ∀ K' : NF 0, (∀ w', I w' → K' w') → B K') : CondP (.bool b) 0 A B K :=
  CondP.of (fun h => h1 h K hk) (fun h => h2 h K hk)
theorem gtr_q {T : TypeId} {x y : Operand} {k : IntKind} {a b : Int} {w : World} {K : Value → Prop} : RunQ P (binSem .gtr T x y (.int k a) (.int k b)) w K = K (.bool (decide (b < a))) := p_gtr.runQ

/-! Slices made. -/
theorem cyc_get (z : Array Value) (c : Nat) (j : Nat) (hz : 0 < z.size) (hj : j < c * z.size) : (Array.map (fun i => z[i % z.size]!) (Array.range (c * z.size)))[j]? = some (z[j % z.size]'(Nat.mod_lt _ hz)) := by
  have : j % z.size < z.size := Nat.mod_lt _ hz
  simp [hj, this]
/-- 'make([]E, n, c)': n elements of the zero value. -/
theorem r_make {t e sz bytes : Nat} {z : List Value} {w : World} {n c : Int} {K : Value → World → Prop} (ht : SlT P t e sz bytes) (hz : zeroOf P e = some z) (h0 : 0 ≤ n) (hnc : n ≤ c) (hb : (bytes : Int) * c ≤ 140737488355328) (h63 : c ≤ 4294967296)
    (k : ∀ w' g ys, g = w.heap.size → Ext w w' → Blk w' g ((List.range n.toNat).flatMap (fun _ => z) ++ ys) e → Own w' e sz (.slice (some ⟨g, 0, none⟩) n.toNat c.toNat) n.toNat ((List.range n.toNat).flatMap fun _ => z) → (n = c → ys = []) → K (.slice (some ⟨g, 0, none⟩) n.toNat c.toNat) w') :
    Run P (Instr.makeSlice t (.int .i64 n) (.int .i64 c)) w K := by
  obtain ⟨i, zv, hi, hzv, rfl, rfl, hzs⟩ := ht.info
  have hzl : zv.cells.toList = z := by
    have := hz
    simp [zeroOf, hi, hzv] at this
    exact this
  have hr := run_make (P := P) w t e i zv ht.slice hi hzv .i64 .i64 n c h0 hnc (by omega) (by omega)
  have hpos : 0 < zv.cells.size := by rw [hzs]; exact ht.pos
  have hcl : (madeCells zv.cells (c.toNat * i.size)).toList = (List.range n.toNat).flatMap (fun _ => z) ++ (List.range (c.toNat - n.toNat)).flatMap (fun _ => z) := by
    have hf : ∀ m : Nat, ((List.range m).flatMap fun _ => z).length = m * i.size := fun m => by
      rw [flat_len _ i.size _ (fun _ _ => by rw [← hzl, Array.length_toList, hzs]), List.length_range]
    have hone : (List.range n.toNat).flatMap (fun _ => z) ++ (List.range (c.toNat - n.toNat)).flatMap (fun _ => z) = (List.range c.toNat).flatMap (fun _ => z) := by
      have h1 : ∀ m : Nat, (List.range m).flatMap (fun _ => z) = (List.replicate m z).flatten := fun m => by
        induction m with
        | zero => rfl
        | succ m ih => rw [List.range_succ, List.flatMap_append, ih, List.replicate_succ', List.flatten_append]; simp
      rw [h1, h1, h1, ← List.flatten_append, List.replicate_append_replicate]
      congr 2; omega
    rw [hone]
    apply List.ext_getElem?
    intro j
    by_cases hj : j < c.toNat * i.size
    · have h2 : j / i.size < c.toNat := Nat.div_lt_of_lt_mul (by rw [Nat.mul_comm]; exact hj)
      have h3 : j % i.size < i.size := Nat.mod_lt _ (by rw [← hzs]; exact hpos)
      have h4 : z[j % i.size]? = some (z[j % i.size]'(by rw [← hzl, Array.length_toList, hzs]; exact h3)) := List.getElem?_eq_getElem _
      have := flat_get (fun _ : Nat => z) i.size (List.range c.toNat) (j / i.size) (j % i.size) (j / i.size) _ (fun _ _ => by rw [← hzl, Array.length_toList, hzs]) (by simp [h2]) h4
      rw [show j / i.size * i.size + j % i.size = j by rw [Nat.mul_comm]; exact Nat.div_add_mod j i.size] at this
      rw [this]
      subst hzl
      simp [madeCells, hj, hzs, h3]
    · rw [List.getElem?_eq_none (by simp [madeCells]; omega), List.getElem?_eq_none (by rw [hf]; omega)]
  have hlz : ∀ m : Nat, ((List.range m).flatMap fun _ => z).length = m * i.size := fun m => by
    rw [flat_len _ i.size _ (fun _ _ => by rw [← hzl, Array.length_toList, hzs]), List.length_range]
  have hblk : Blk (w.alloc (.cells (madeCells zv.cells (c.toNat * i.size)) e)) w.heap.size ((List.range n.toNat).flatMap (fun _ => z) ++ (List.range (c.toNat - n.toNat)).flatMap (fun _ => z)) e := by
    unfold Blk
    rw [heap_alloc_new, ← hcl]
  refine .of hr (k _ w.heap.size _ rfl (alloc_ext _ _) hblk ?_ (fun h => by subst h; simp))
  refine ⟨hlz _, .inr ⟨w.heap.size, c.toNat, _, rfl, by omega, by simp [maxLen]; omega, ?_, hblk⟩⟩
  rw [List.length_append, hlz, hlz, ← Nat.add_mul]
  congr 1; omega

/-! Slices cut. -/
/-- 'l[:h:m]'. -/
theorem p_slice3 {t e sz n c : Nat} {p : Option Addr} {h m : Int} (ht : P.underlying t = some (.slice e)) (he : sizeB P e sz = true) (h0 : 0 ≤ h) (hm : h ≤ m) (hc : m ≤ c) :
    Pure P (Instr.sliceAt t (.slice p n c) none (some (.int .i64 h)) (some (.int .i64 m))) (.slice p h.toNat m.toNat) := fun w => by
  have ha : p.map (·.add 0) = p := by cases p <;> simp [Addr.add]
  have h1 : 0 ≤ m := by omega
  have e0 : max m 0 = m := by omega
  simp [Instr.sliceAt, Instr.slice, Instr.sliceBounds, Instr.sliceBound, asIntOf, Sem.run_bind, run_underlying ht, size_of he, Result.andThen, pure, Sem.run, h0, h1, hm, hc, ha, e0]
/-- 'l[k:h:m]', for a block. -/
theorem p_sliceL3 {t e sz n c b o : Nat} {k h m : Int} (ht : P.underlying t = some (.slice e)) (he : sizeB P e sz = true) (hk : 0 ≤ k) (h0 : k ≤ h) (hm : h ≤ m) (hc : m ≤ c) :
    Pure P (Instr.sliceAt t (.slice (some ⟨b, o, none⟩) n c) (some (.int .i64 k)) (some (.int .i64 h)) (some (.int .i64 m))) (.slice (some ⟨b, if m = k then o else o + k.toNat * sz, none⟩) (h.toNat - k.toNat) (m.toNat - k.toNat)) := fun w => by
  have h1 : 0 ≤ m := by omega
  have h2 : 0 ≤ h := by omega
  have e0 : max m 0 = m := by omega
  have e2 : max h 0 = h := by omega
  have e1 : (m.toNat = k.toNat) = (m = k) := propext ⟨fun h => by omega, fun h => by omega⟩
  by_cases hmk : m = k
  · subst hmk
    simp [Instr.sliceAt, Instr.slice, Instr.sliceBounds, Instr.sliceBound, asIntOf, Sem.run_bind, run_underlying ht, size_of he, Result.andThen, pure, Sem.run, h0, h1, h2, hm, hc, hk, e0, e2]
  · simp [Instr.sliceAt, Instr.slice, Instr.sliceBounds, Instr.sliceBound, asIntOf, Sem.run_bind, run_underlying ht, size_of he, Result.andThen, pure, Sem.run, h0, h1, h2, hm, hc, hk, hmk, e1, e0, e2, Addr.add_lit]
/-- 'l[k:h]', for a block. -/
theorem p_sliceL {t e sz n c b o : Nat} {k h : Int} (ht : P.underlying t = some (.slice e)) (he : sizeB P e sz = true) (hk : 0 ≤ k) (h0 : k ≤ h) (hc : h ≤ c) :
    Pure P (Instr.sliceAt t (.slice (some ⟨b, o, none⟩) n c) (some (.int .i64 k)) (some (.int .i64 h)) none) (.slice (some ⟨b, if (c : Int) = k then o else o + k.toNat * sz, none⟩) (h.toNat - k.toNat) (c - k.toNat)) := fun w => by
  have h2 : 0 ≤ h := by omega
  have e2 : max h 0 = h := by omega
  have e1 : (c = k.toNat) = ((c : Int) = k) := propext ⟨fun h => by omega, fun h => by omega⟩
  by_cases hmk : (c : Int) = k
  · have : c = k.toNat := by omega
    have e3 : max k 0 = k := by omega
    have h3 : h ≤ k := by omega
    have h4 : h = k := by omega
    subst h4
    simp [Instr.sliceAt, Instr.slice, Instr.sliceBounds, Instr.sliceBound, asIntOf, Sem.run_bind, run_underlying ht, size_of he, Result.andThen, pure, Sem.run, h0, h2, hc, hk, hmk, this, e2, e3]
  · simp [Instr.sliceAt, Instr.slice, Instr.sliceBounds, Instr.sliceBound, asIntOf, Sem.run_bind, run_underlying ht, size_of he, Result.andThen, pure, Sem.run, h0, h2, hc, hk, hmk, e1, e2, Addr.add_lit]
/-- 'copy(dst, src)', of one-cell elements, both of the length n. -/
theorem r_copy {t e ty g n c : Nat} {v : Value} {xs ys : List Value} {w : World} {K : Value → World → Prop} (ht : P.underlying t = some (.slice e)) (he : sizeB P e 1 = true) (hd : Blk w g ys e) (hyl : ys.length = n) (hs : Own w e 1 v n xs)
    (h1 : ∀ u ∈ xs, u.oneCell' = true) (k : ∀ r w', Chg g w w' → Blk w' g xs e → K r w') : Run P (Builtin.copy_ #[t, t] ty #[.slice (some ⟨g, 0, none⟩) n c, v]) w K := by
  have hsz : ((P.info? e).map (·.size)) = some 1 := by
    unfold sizeB at he
    cases hi : P.info? e with
    | none => rw [hi] at he; cases he
    | some i => rw [hi] at he; simp at he; simp [he]
  have hxl : xs.length = n := by have := hs.1; simpa using this
  rcases hs.2 with ⟨rfl, hn⟩ | ⟨g', cap, zs, rfl, _, _, _, hb⟩
  · subst hn
    have hx : xs = [] := List.eq_nil_of_length_eq_zero hxl
    have hy : ys = [] := List.eq_nil_of_length_eq_zero hyl
    subst hx; subst hy
    exact .of (run_copy_nil (P := P) w t t ty e ⟨g, 0, none⟩ 0 c ht (by rw [hsz]; rfl)) (k _ _ ⟨rfl, rfl, rfl, rfl, fun _ _ => rfl⟩ hd)
  · have hr := run_copy_row (P := P) w t t ty e g 0 n c ⟨g', 0, none⟩ n cap ys.toArray e xs ht hsz hd (by rw [hxl]; exact (Nat.min_self n).symm) (fun j u hj => by
      rw [Addr.add_lit]
      have := hb.at j u (by rw [List.getElem?_append_left (List.getElem?_eq_some_iff.1 hj).1]; exact hj)
      simpa using this) (by simp [hxl, hyl]) h1
    have hc : (ys.toArray.toList.take 0 ++ xs ++ ys.toArray.toList.drop (0 + xs.length)) = xs := by
      rw [List.drop_eq_nil_of_le (by simp [hxl, hyl])]; simp
    rw [hc] at hr
    exact .of hr (k _ _ ⟨rfl, rfl, rfl, by simp, fun j hj => setRow_other w g j _ hj⟩ (setRow_heap w g _ _ e _ hd))
/-- A call of a function bound to its first argument. -/
theorem GoN.bound {f : FuncId} {v : Value} {w : World} {K : Value → World → Prop} (k : GoN P (callFunc f #[v]) w K) : GoN P (do let d ← Deferred.ofValue (.func (.func f) #[v] #[]) #[]; invoke d.target d.args) w K := by
  refine ⟨?_⟩
  have : (do let d ← Deferred.ofValue (.func (.func f) #[v] #[]) #[]; invoke d.target d.args : Sem Next).run P w = (callFunc f #[v]).run P w := by
    simp [Deferred.ofValue, invoke, Sem.run_bind, pure, Sem.run, Result.andThen]
  rw [this]
  exact k.h
end Go.V
