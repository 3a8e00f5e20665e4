/- Rows that a call makes and that grow by append. Conditions: none. -/
import Derived.Test.YtfdjkdiebabimaaV7
set_option linter.unusedVariables false
set_option linter.unusedSimpArgs false
namespace Go.V
open Go.RowKit
variable {P : Program}

/-- The slice v, of n elements of sz cells each, owns the cells xs: it is nil, or begins at the head of a row of its own. -/
def Own (w : World) (e sz : Nat) (v : Value) (n : Nat) (xs : List Value) : Prop :=
  xs.length = n * sz ∧ ((v = .slice none 0 0 ∧ n = 0) ∨
    ∃ g cap ys, v = .slice (some ⟨g, 0, none⟩) n cap ∧ n ≤ cap ∧ cap ≤ maxLen ∧ (xs ++ ys).length = cap * sz ∧ Blk w g (xs ++ ys) e)
theorem Own.nil (w : World) (e sz : Nat) : Own w e sz (.slice none 0 0) 0 [] := ⟨by simp, .inl ⟨rfl, rfl⟩⟩
theorem Own.lt {w : World} {e sz n : Nat} {v : Value} {xs : List Value} (h : Own w e sz v n xs) {k : Nat} (hk : v.ownBlock = some k) : k < w.heap.size := by
  rcases h.2 with ⟨rfl, _⟩ | ⟨g, cap, ys, rfl, _, _, _, hb⟩
  · simp [Value.ownBlock] at hk
  · simp [Value.ownBlock] at hk; subst hk; exact hb.lt
theorem Own.keep {w w' : World} {e sz n : Nat} {v : Value} {xs : List Value} (h : Own w e sz v n xs) (hs : ∀ k, v.ownBlock = some k → w'.heap[k]? = w.heap[k]?) : Own w' e sz v n xs := by
  refine ⟨h.1, ?_⟩
  rcases h.2 with hn | ⟨g, cap, ys, rfl, h1, h2, h3, hb⟩
  · exact .inl hn
  · exact .inr ⟨g, cap, ys, rfl, h1, h2, h3, (hs g rfl).trans hb⟩
theorem Own.ext {w w' : World} {e sz n : Nat} {v : Value} {xs : List Value} (h : Own w e sz v n xs) (x : Ext w w') : Own w' e sz v n xs := h.keep fun k hk => x.block k (h.lt hk)
theorem Own.chg {w w' : World} {e sz n b : Nat} {v : Value} {xs : List Value} (h : Own w e sz v n xs) (x : Chg b w w') (hne : v.ownBlock ≠ some b) : Own w' e sz v n xs :=
  h.keep fun k hk => x.block k (fun e => hne (by rw [hk, e]))
theorem Own.len {w : World} {e sz n : Nat} {v : Value} {xs : List Value} (h : Own w e sz v n xs) : ∃ p c, v = .slice p n c ∧ n ≤ c := by
  rcases h.2 with ⟨rfl, rfl⟩ | ⟨g, cap, ys, rfl, h1, _⟩
  · exact ⟨none, 0, rfl, Nat.le_refl _⟩
  · exact ⟨_, cap, rfl, h1⟩
/-- What lies behind an owned slice. -/
theorem Own.at {w : World} {e sz n : Nat} {v : Value} {xs : List Value} (h : Own w e sz v n xs) (hn : 0 < n) : ∃ g c, v = .slice (some ⟨g, 0, none⟩) n c ∧ n ≤ c ∧ At w g 0 xs := by
  rcases h.2 with ⟨rfl, rfl⟩ | ⟨g, cap, ys, rfl, h1, h2, h3, hb⟩
  · omega
  · refine ⟨g, cap, rfl, h1, fun j u hj => hb.at j u ?_⟩
    rw [List.getElem?_append_left (List.getElem?_eq_some_iff.1 hj).1]
    exact hj
structure Grow (w w' : World) (v v' : Value) : Prop where
  os : w'.os = w.os
  tape : w'.tape = w.tape
  output : w'.output = w.output
  size : w.heap.size ≤ w'.heap.size
  block : ∀ k, k < w.heap.size → some k ≠ v.ownBlock → w'.heap[k]? = w.heap[k]?
  new : v'.ownBlock = v.ownBlock ∨ ∀ k, v'.ownBlock = some k → w.heap.size ≤ k ∧ k < w'.heap.size
  old : v'.ownBlock = v.ownBlock ∨ ∀ k, k < w.heap.size → w'.heap[k]? = w.heap[k]?
theorem Grow.below {w w' : World} {v v' : Value} {B : Nat} (h : Grow w w' v v') (hB : B ≤ w.heap.size) (hv : ∀ k, v.ownBlock = some k → B ≤ k) : Below B w w' :=
  ⟨h.os, h.tape, h.output, h.size, fun k hk => h.block k (by omega) (fun e => by have := hv k e.symm; omega)⟩
theorem Grow.low {w w' : World} {v v' : Value} {B : Nat} (h : Grow w w' v v') (hB : B ≤ w.heap.size) (hv : ∀ k, v.ownBlock = some k → B ≤ k) : ∀ k, v'.ownBlock = some k → B ≤ k := by
  intro k hk
  rcases h.new with h1 | h1
  · exact hv k (h1 ▸ hk)
  · have := (h1 k hk).1; omega
theorem Grow.of_ext {w w1 w' : World} {v v' : Value} (e : Ext w w1) (h : Grow w1 w' v v') (hv : ∀ k, v.ownBlock = some k → k < w.heap.size) : Grow w w' v v' :=
  ⟨h.os.trans e.os, h.tape.trans e.tape, h.output.trans e.output, Nat.le_trans e.size h.size,
    fun k hk hne => (h.block k (Nat.lt_of_lt_of_le hk e.size) hne).trans (e.block k hk),
    h.new.imp id fun h1 k hk => ⟨Nat.le_trans e.size (h1 k hk).1, (h1 k hk).2⟩, h.old.imp id fun h1 k hk => (h1 k (Nat.lt_of_lt_of_le hk e.size)).trans (e.block k hk)⟩
/-- What the grown row holds besides may stay. -/
theorem Own.grow {w w' : World} {e sz n : Nat} {v u u' : Value} {xs : List Value} (h : Own w e sz v n xs) (g : Grow w w' u u') (hne : ∀ k, v.ownBlock = some k → u.ownBlock ≠ some k) : Own w' e sz v n xs :=
  h.keep fun k hk => g.block k (h.lt hk) (fun e => hne k hk e.symm)

theorem run_appendA {t e sz bytes ty n m c : Nat} (ht : SlT P t e sz bytes) {v : Value} {w : World} {xs news : List Value} {a : Addr} (hown : Own w e sz v n xs)
    (hat' : ∀ j u, news[j]? = some u → w.cell? (a.add j) = some u) (hl : news.length = m * sz) (h1 : ∀ u ∈ news, u.oneCell' = true) (h63 : n + m ≤ maxLen) (hb : (n + m) * bytes ≤ 140737488355328) :
    ∃ v' w', (Builtin.append_ #[t, t] ty #[v, .slice (some a) m c]).run P w = .ok v' w' ∧ Own w' e sz v' (n + m) (xs ++ news) ∧ Grow w w' v v' := by
  obtain ⟨i, z, hi, hz, rfl, rfl, hzs⟩ := ht.info
  have hsmall : n + m ≤ 9223372036854775807 := by simp only [maxLen] at h63; omega
  have hlen : (xs ++ news).length = (n + m) * i.size := by rw [List.length_append, hown.1, hl, Nat.add_mul]
  have made : ∀ (old : Nat), Own (w.drew.alloc (.cells (xs.toArray ++ news.toArray ++ Builtin.zeroCells z.cells (grownCap w (n + m) old e - (n + m))) e)) e i.size
      (.slice (some ⟨w.heap.size, 0, none⟩) (n + m) (grownCap w (n + m) old e)) (n + m) (xs ++ news) := by
    intro old
    have hge := grownCap_ge w (n + m) old e
    refine ⟨hlen, .inr ⟨w.heap.size, _, (Builtin.zeroCells z.cells (grownCap w (n + m) old e - (n + m))).toList, rfl, hge, grownCap_le_maxLen w (n + m) old e h63, ?_, ?_⟩⟩
    · rw [List.length_append, hlen, Array.length_toList, size_zeroCells, hzs, ← Nat.add_mul]
      congr 1; omega
    · unfold Blk
      have := heap_alloc_new w.drew (.cells (xs.toArray ++ news.toArray ++ Builtin.zeroCells z.cells (grownCap w (n + m) old e - (n + m))) e)
      rw [show w.heap.size = w.drew.heap.size from rfl, this]
      congr 2
      apply Array.toList_inj.1
      simp
  have grown : ∀ (o : Obj) (p : Value) (k : Nat), Grow w (w.drew.alloc o) v (.slice (some ⟨w.heap.size, 0, none⟩) (n + m) k) := fun o p k =>
    ⟨rfl, rfl, rfl, by simp, fun k hk _ => Below.heap_alloc w.drew o k hk, .inr fun k hk => by simp [Value.ownBlock] at hk; subst hk; simp, .inr fun k hk => Below.heap_alloc w.drew o k hk⟩
  rcases hown.2 with ⟨rfl, rfl⟩ | ⟨g, cap, ys, rfl, hnc, hcm, hcs, hg⟩
  · have hx : xs = [] := List.eq_nil_of_length_eq_zero (by simpa using hown.1)
    subst hx
    by_cases hm : m = 0
    · subst hm
      have hn : news = [] := List.eq_nil_of_length_eq_zero (by simpa using hl)
      subst hn
      refine ⟨.slice none 0 0, w, ?_, Own.nil w e i.size, ⟨rfl, rfl, rfl, Nat.le_refl _, fun _ _ _ => rfl, .inl rfl, .inl rfl⟩⟩
      simp [Builtin.append_, run_underlying ht.slice, sizeOf, typeInfo, hi, Builtin.lenOf, Builtin.firstCells, loadCells, loadCellsFrom]
    · have hr := run_append_nil (P := P) w t ty e i z ht.slice hi hz a m c news hl hat' (by omega) (by omega) (by have h := hb; simp only [Nat.zero_add] at h; omega)
      have hm1 := made 0
      have hg1 := grown (.cells (news.toArray ++ Builtin.zeroCells z.cells (grownCap w m 0 e - m)) e) .nilIface (grownCap w m 0 e)
      simp only [Nat.zero_add, List.nil_append, Array.empty_append] at hm1 hg1 ⊢
      exact ⟨_, _, hr, hm1, hg1⟩
  · by_cases hroom : n + m ≤ cap
    · have hfit : n * i.size + news.length ≤ (xs ++ ys).toArray.size := by
        rw [hl, List.size_toArray, hcs, ← Nat.add_mul]; exact Nat.mul_le_mul_right _ hroom
      have hr := run_append_room (P := P) w t ty e i ht.slice hi g n cap (xs ++ ys).toArray hg a m c news hl hat' h1 hroom hfit
      have hcells : ((xs ++ ys).toArray.toList.take (n * i.size) ++ news ++ (xs ++ ys).toArray.toList.drop (n * i.size + news.length)) = xs ++ news ++ ys.drop news.length := by
        have hx := hown.1
        simp only [List.toList_toArray]
        rw [← hx, List.take_left, List.drop_append]
        simp
      rw [hcells] at hr
      refine ⟨_, _, hr, ⟨hlen, .inr ⟨g, cap, ys.drop news.length, rfl, hroom, hcm, ?_, setRow_heap w g _ _ e _ hg⟩⟩, ⟨rfl, rfl, rfl, by simp, fun k _ hk => setRow_other w g k _ (fun e => hk (by simp [Value.ownBlock, e])), .inl rfl, .inl rfl⟩⟩
      have h5 : xs.length + ys.length = cap * i.size := by simpa using hcs
      have h6 : news.length ≤ ys.length := by
        have : n * i.size + news.length ≤ xs.length + ys.length := by simpa using hfit
        rw [← hown.1] at this; omega
      simp only [List.length_append, List.length_drop]
      omega
    · have hr := run_append_grow (P := P) w t ty e i z ht.slice hi hz ⟨g, 0, none⟩ n cap xs hown.1 (fun j u hj => by
        rw [Addr.add_lit]
        have := hg.at j u (by rw [List.getElem?_append_left (List.getElem?_eq_some_iff.1 hj).1]; exact hj)
        simpa using this) a m c news hl hat' (by omega) (by omega) (growslice_fits (by omega) hb)
      exact ⟨_, _, hr, made cap, grown _ .nilIface _⟩
theorem run_append {t e sz bytes ty n m c : Nat} (ht : SlT P t e sz bytes) {v : Value} {w : World} {xs news : List Value} {b o : Nat} (hown : Own w e sz v n xs)
    (hat : At w b o news) (hl : news.length = m * sz) (h1 : ∀ u ∈ news, u.oneCell' = true) (h63 : n + m ≤ maxLen) (hb : (n + m) * bytes ≤ 140737488355328) :
    ∃ v' w', (Builtin.append_ #[t, t] ty #[v, .slice (some ⟨b, o, none⟩) m c]).run P w = .ok v' w' ∧ Own w' e sz v' (n + m) (xs ++ news) ∧ Grow w w' v v' :=
  run_appendA ht hown (fun j u hj => by rw [Addr.add_lit]; exact hat j u hj) hl h1 h63 hb
theorem r_append {t e sz bytes ty n m c : Nat} (ht : SlT P t e sz bytes) {v : Value} {w : World} {xs news : List Value} {b o : Nat} {K : Value → World → Prop} (hown : Own w e sz v n xs)
    (hat : At w b o news) (hl : news.length = m * sz) (h1 : ∀ u ∈ news, u.oneCell' = true) (h63 : n + m ≤ maxLen) (hb : (n + m) * bytes ≤ 140737488355328)
    (k : ∀ v' w', Own w' e sz v' (n + m) (xs ++ news) → Grow w w' v v' → K v' w') : Run P (Builtin.append_ #[t, t] ty #[v, .slice (some ⟨b, o, none⟩) m c]) w K := by
  obtain ⟨v', w', h, h2, h3⟩ := run_append (ty := ty) (c := c) ht hown hat hl h1 h63 hb
  exact .of h (k v' w' h2 h3)
/-- 'append(v, x)'. -/
theorem r_append1 {t e sz bytes ty n : Nat} (ht : SlT P t e sz bytes) {v x : Value} {w : World} {xs : List Value} {K : Value → World → Prop} (hown : Own w e sz v n xs)
    (hx : x.cells.size = sz) (h1 : ∀ u ∈ x.cells.toList, u.oneCell' = true) (h63 : n + 1 ≤ maxLen) (hb : (n + 1) * bytes ≤ 140737488355328)
    (k : ∀ v' w', Own w' e sz v' (n + 1) (xs ++ x.cells.toList) → Grow w w' v v' → K v' w') :
    Run P (Instr.buildSlice t 1 #[(0, x)]) w fun y w1 => Run P (Builtin.append_ #[t, t] ty #[v, y]) w1 K := by
  have he := alloc_ext w (.cells x.cells e)
  have hblk : Blk (w.alloc (.cells x.cells e)) w.heap.size x.cells.toList e := by unfold Blk; rw [heap_alloc_new]
  refine .of (run_build1 ht hx w) (r_append ht (hown.ext he) (b := w.heap.size) (o := 0) (news := x.cells.toList) (by have := hblk.at; exact this) (by simpa using hx) h1 h63 hb fun v' w' h2 h3 => k v' w' h2 ?_)
  exact Grow.of_ext he h3 fun k hk => hown.lt hk

/-! Numbers. -/
theorem wrap64_id {x : Int} (h0 : -9223372036854775808 ≤ x) (h1 : x ≤ 9223372036854775807) : IntKind.i64.wrap x = x := by
  rw [IntKind.wrap_i64]
  omega
theorem succ64 {k : Nat} (h : k < 4611686018427387904) : Value.int .i64 (IntKind.i64.wrap ((k : Int) + 1)) = .int .i64 ((k + 1 : Nat) : Int) := by
  rw [wrap64_id (by omega) (by omega)]
  norm_cast
end Go.V
