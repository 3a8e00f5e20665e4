/- Lists of rows, each of its own: filled with marks, grown with marks. Conditions: none. -/
import Derived.Test.YtmgleeoecdodjaaDoorTd
set_option linter.unusedVariables false
set_option linter.unusedSimpArgs false
namespace Go.V
open Go.RowKit
variable {P : Program}

def marks (mk : Nat → Nat → List Value) (k n : Nat) : List Value := (List.range n).flatMap (mk k)
theorem marks_succ (mk : Nat → Nat → List Value) (k n : Nat) : marks mk k (n + 1) = marks mk k n ++ mk k n := by simp [marks, List.range_succ]
theorem marks_len {mk : Nat → Nat → List Value} {sz : Nat} (h : ∀ k i, (mk k i).length = sz) (k n : Nat) : (marks mk k n).length = n * sz := by
  have := flat_len (mk k) sz (List.range n) (fun i _ => h k i)
  simpa [marks] using this
theorem marks_pre (mk : Nat → Nat → List Value) (k n m : Nat) (h : n ≤ m) : ∃ zs, marks mk k m = marks mk k n ++ zs := by
  induction m with
  | zero =>
    have : n = 0 := by omega
    subst this; exact ⟨[], by simp⟩
  | succ m ih =>
    by_cases hn : n = m + 1
    · subst hn; exact ⟨[], by simp⟩
    · obtain ⟨zs, hz⟩ := ih (by omega)
      exact ⟨zs ++ mk k m, by rw [marks_succ, hz, List.append_assoc]⟩
theorem marks_get {mk : Nat → Nat → List Value} {sz : Nat} (h : ∀ k i, (mk k i).length = sz) {k n i : Nat} (hi : i < n) {j : Nat} {u : Value} (hj : (mk k i)[j]? = some u) : (marks mk k n)[i * sz + j]? = some u :=
  flat_get (mk k) sz (List.range n) i j i u (fun x _ => h k x) (by simp [hi]) hj
def sLen : Value → Nat
  | .slice _ n _ => n
  | _ => 0
/-- The slice v, of n elements, can be read: it begins at the head of a row of the type e. -/
def Rd (w : World) (e : Nat) (v : Value) (n : Nat) (xs : List Value) : Prop := ∃ p c, v = .slice p n c ∧ (0 < n → ∃ b ys, p = some ⟨b, 0, none⟩ ∧ Blk w b (xs ++ ys) e)
theorem Own.rd {w : World} {e sz n : Nat} {v : Value} {xs : List Value} (h : Own w e sz v n xs) : Rd w e v n xs := by
  rcases h.2 with ⟨rfl, rfl⟩ | ⟨g, cap, ys, rfl, h1, h2, h3, hb⟩
  · exact ⟨none, 0, rfl, fun h => absurd h (Nat.lt_irrefl _)⟩
  · exact ⟨_, cap, rfl, fun _ => ⟨g, ys, rfl, hb⟩⟩
theorem Rd.keepT {Ts : List TypeId} {w w' : World} {e n : Nat} {v : Value} {xs : List Value} (h : Rd w e v n xs) (k : Keep Ts w w') (he : e ∉ Ts) : Rd w' e v n xs := by
  obtain ⟨p, c, rfl, h1⟩ := h
  refine ⟨p, c, rfl, fun hn => ?_⟩
  obtain ⟨b, ys, hp, hb⟩ := h1 hn
  exact ⟨b, ys, hp, k.blk _ _ _ he hb⟩
theorem Own.sLen {w : World} {e sz n : Nat} {v : Value} {xs : List Value} (h : Own w e sz v n xs) : sLen v = n := by
  obtain ⟨p, c, rfl, _⟩ := h.len; rfl
theorem Own.off {w : World} {e sz n c b : Nat} {p : Option Addr} {xs : List Value} (h : Own w e sz (.slice p n c) n xs) (hp : 0 < n) : ∃ g, p = some ⟨g, 0, none⟩ := by
  obtain ⟨g, c', he, _⟩ := h.at hp
  injection he with e1
  exact ⟨g, e1⟩

/-- The first k rows are filled with marks, the next up to i. -/
structure Fill (e sz : Nat) (mk : Nat → Nat → List Value) (vs : List Value) (k i : Nat) (w : World) : Prop where
  h : ∀ (j : Nat) (v : Value), vs[j]? = some v → ∃ xs, Own w e sz v (sLen v) xs ∧ (j < k → xs = marks mk j (sLen v)) ∧ (j = k → xs.take (i * sz) = marks mk j i)
theorem Fill.start {e sz : Nat} {mk : Nat → Nat → List Value} {vs : List Value} {w : World} (h : ∀ (j : Nat) (v : Value), vs[j]? = some v → ∃ n xs, Own w e sz v n xs) : Fill e sz mk vs 0 0 w :=
  ⟨fun j v hv => by
    obtain ⟨n, xs, ho⟩ := h j v hv
    exact ⟨xs, by rw [ho.sLen]; exact ho, fun h => absurd h (Nat.not_lt_zero _), fun _ => by simp [marks]⟩⟩
theorem Fill.ext {e sz : Nat} {mk : Nat → Nat → List Value} {vs : List Value} {k i : Nat} {w w' : World} (h : Fill e sz mk vs k i w) (x : Ext w w') : Fill e sz mk vs k i w' :=
  ⟨fun j v hv => by obtain ⟨xs, h1, h2⟩ := h.h j v hv; exact ⟨xs, h1.ext x, h2⟩⟩
theorem Fill.next {e sz : Nat} {mk : Nat → Nat → List Value} {vs : List Value} {k : Nat} {v : Value} {w : World} (h : Fill e sz mk vs k (sLen v) w) (hv : vs[k]? = some v) : Fill e sz mk vs (k + 1) 0 w :=
  ⟨fun j u hu => by
    obtain ⟨xs, h1, h2, h3⟩ := h.h j u hu
    refine ⟨xs, h1, fun hj => ?_, fun _ => by simp [marks]⟩
    by_cases hjk : j = k
    · subst hjk
      rw [hv] at hu; injection hu with hu; subst hu
      have := h3 rfl
      rwa [List.take_of_length_le (by rw [h1.1]; exact Nat.le_refl _)] at this
    · exact h2 (by omega)⟩
/-- One mark more. -/
theorem Fill.store {e sz lo hi : Nat} {mk : Nat → Nat → List Value} {vs : List Value} {k i g c n : Nat} {w w' : World} {xs : List Value} (h : Fill e sz mk vs k i w) (hmk : ∀ k i, (mk k i).length = sz) (hinc : Dis lo vs hi) (hv : vs[k]? = some (.slice (some ⟨g, 0, none⟩) n c)) (hi' : i < n)
    (hx : xs.take (i * sz) = marks mk k i) (hxl : xs.length = n * sz) (hc : Chg g w w') (ho : Own w' e sz (.slice (some ⟨g, 0, none⟩) n c) n (splice xs (i * sz) (mk k i))) : Fill e sz mk vs k (i + 1) w' :=
  ⟨fun j u hu => by
    by_cases hjk : j = k
    · subst hjk
      rw [hv] at hu; injection hu with hu; subst hu
      refine ⟨_, ho, fun h => absurd h (Nat.lt_irrefl _), fun _ => ?_⟩
      have hlt : i * sz + sz ≤ n * sz := by
        have : (i + 1) * sz ≤ n * sz := Nat.mul_le_mul_right _ hi'
        rwa [Nat.add_mul, Nat.one_mul] at this
      rw [marks_succ, Nat.add_mul, Nat.one_mul]
      simp only [splice, List.append_assoc]
      rw [hx, List.take_append, marks_len hmk, List.take_of_length_le (by rw [marks_len hmk]; omega), show i * sz + sz - i * sz = sz by omega, List.take_append, hmk, List.take_of_length_le (by rw [hmk]; exact Nat.le_refl _)]
      simp
    · obtain ⟨ys, h1, h2, h3⟩ := h.h j u hu
      refine ⟨ys, h1.chg hc (fun e => ?_), h2, fun h => absurd h hjk⟩
      exact hinc.apart (i := k) (j := j) (fun e => hjk e.symm) hv hu (g := g) rfl e⟩

/-- The rows as they are: cur holds what each has become, of cs j elements. -/
structure Ap (e sz : Nat) (mk : Nat → Nat → List Value) (vs cur : List Value) (cs : Nat → Nat) (lo : Nat) (w : World) : Prop where
  len : cur.length = vs.length
  own : ∀ (j : Nat) (g : Value), cur[j]? = some g → Own w e sz g (cs j) (marks mk j (cs j))
  rd : ∀ (j : Nat) (v : Value), vs[j]? = some v → Rd w e v (sLen v) (marks mk j (sLen v)) ∧ sLen v ≤ cs j
  sep : ∀ (i j : Nat) (u g : Value), i ≠ j → cur[i]? = some u → cur[j]? = some g → ∀ b, u.ownBlock = some b → g.ownBlock ≠ some b
  sepv : ∀ (i j : Nat) (v g : Value), i ≠ j → 0 < sLen v → vs[i]? = some v → cur[j]? = some g → ∀ b, v.ownBlock = some b → g.ownBlock ≠ some b
  low : ∀ (j : Nat) (g : Value), cur[j]? = some g → ∀ b, g.ownBlock = some b → lo ≤ b
theorem Fill.ap {e sz lo hi : Nat} {mk : Nat → Nat → List Value} {vs : List Value} {w : World} (h : Fill e sz mk vs vs.length 0 w) (hinc : Dis lo vs hi) : Ap e sz mk vs vs (fun j => sLen ((vs[j]?).getD .nilIface)) lo w where
  len := rfl
  own j g hg := by
    obtain ⟨xs, h1, h2, _⟩ := h.h j g hg
    have := h2 (List.getElem?_eq_some_iff.1 hg).1
    subst this
    simpa [hg] using h1
  rd j v hv := by
    obtain ⟨xs, h1, h2, _⟩ := h.h j v hv
    have := h2 (List.getElem?_eq_some_iff.1 hv).1
    subst this
    exact ⟨h1.rd, by simp [hv]⟩
  sep i j u g hij hu hg b hb := hinc.apart hij hu hg hb
  sepv i j u g hij _ hu hg b hb := hinc.apart hij hu hg hb
  low j g hg b hb := (hinc.get hg b hb).1
theorem Ap.keepT {Ts : List TypeId} {e sz lo : Nat} {mk : Nat → Nat → List Value} {vs cur : List Value} {cs : Nat → Nat} {w w' : World} (h : Ap e sz mk vs cur cs lo w) (k : Keep Ts w w') (he : e ∉ Ts) : Ap e sz mk vs cur cs lo w' :=
  ⟨h.len, fun j g hg => (h.own j g hg).keepT k he, fun j v hv => ⟨(h.rd j v hv).1.keepT k he, (h.rd j v hv).2⟩, h.sep, h.sepv, h.low⟩
/-- One mark more behind the row k. -/
theorem Ap.push {e sz lo : Nat} {mk : Nat → Nat → List Value} {vs cur : List Value} {cs : Nat → Nat} {w w' : World} {k : Nat} {g g' : Value} (h : Ap e sz mk vs cur cs lo w) (hk : cur[k]? = some g) (hg : Grow w w' g g')
    (ho : Own w' e sz g' (cs k + 1) (marks mk k (cs k) ++ mk k (cs k))) (hlo : lo ≤ w.heap.size) : Ap e sz mk vs (cur.set k g') (fun j => if j = k then cs k + 1 else cs j) lo w' := by
  have hkl : k < cur.length := (List.getElem?_eq_some_iff.1 hk).1
  have get : ∀ j u, (cur.set k g')[j]? = some u → (j = k ∧ u = g') ∨ (j ≠ k ∧ cur[j]? = some u) := by
    intro j u hu
    by_cases hjk : j = k
    · subst hjk
      rw [List.getElem?_set, if_pos rfl, if_pos hkl] at hu
      injection hu with hu
      exact .inl ⟨rfl, hu.symm⟩
    · rw [List.getElem?_set_ne (fun e => hjk e.symm)] at hu
      exact .inr ⟨hjk, hu⟩
  have hgn := hg.new
  refine ⟨by simpa using h.len, fun j u hu => ?_, fun j v hv => ?_, fun i j u u' hij hu hu' b hb => ?_, fun i j v u' hij hpos hv hu' b hb => ?_, fun j u hu b hb => ?_⟩
  · rcases get j u hu with ⟨rfl, rfl⟩ | ⟨hne, hu⟩
    · simp only [if_true]; rw [marks_succ]; exact ho
    · simp only [if_neg hne]
      refine (h.own j u hu).grow hg fun b hb => ?_
      exact h.sep j k u g hne hu hk b hb
  · obtain ⟨h1, h2⟩ := h.rd j v hv
    refine ⟨?_, ?_⟩
    · obtain ⟨p, c, hvp, h3⟩ := h1
      generalize hn0 : sLen v = n at hvp h3 h2
      subst hvp
      refine ⟨p, c, rfl, fun hn => ?_⟩
      obtain ⟨b, ys, rfl, hb⟩ := h3 hn
      by_cases hgb : g.ownBlock = some b
      · have hjk : j = k := Classical.byContradiction fun hne => h.sepv j k (.slice (some ⟨b, 0, none⟩) n c) g hne hn hv hk b rfl hgb
        subst hjk
        rcases hg.old with h4 | h4
        · obtain ⟨_, h5 | ⟨b', cap, ys', h5, _, _, _, hb'⟩⟩ := ho
          · rw [h5.1, hgb] at h4; simp [Value.ownBlock] at h4
          · rw [hgb, h5] at h4
            simp [Value.ownBlock] at h4
            subst h4
            obtain ⟨zs, hz⟩ := marks_pre mk j n (cs j) h2
            refine ⟨b', zs ++ mk j (cs j) ++ ys', rfl, ?_⟩
            have : marks mk j (cs j) ++ mk j (cs j) ++ ys' = marks mk j n ++ (zs ++ mk j (cs j) ++ ys') := by rw [hz]; simp [List.append_assoc]
            rw [← this]; exact hb'
        · exact ⟨b, ys, rfl, (h4 b hb.lt).trans hb⟩
      · exact ⟨b, ys, rfl, (hg.block b hb.lt fun e => hgb e.symm).trans hb⟩
    · by_cases hjk : j = k
      · subst hjk; simp only [if_true]; omega
      · simpa [hjk] using h2
  · rcases get i u hu with ⟨rfl, rfl⟩ | ⟨hne, hu⟩
    · rcases get j u' hu' with ⟨rfl, rfl⟩ | ⟨hne', hu'⟩
      · exact absurd rfl hij
      · intro hb'
        rcases hgn with h1 | h1
        · exact h.sep i j g u' hij hk hu' b (h1 ▸ hb) hb'
        · have := (h.own j u' hu').lt hb'; have := h1 b hb; omega
    · rcases get j u' hu' with ⟨rfl, rfl⟩ | ⟨hne', hu'⟩
      · rename_i hu0
        intro hb'
        rcases hgn with h1 | h1
        · exact h.sep i j u g hij hu0 hk b hb (h1 ▸ hb')
        · have := (h.own i u hu0).lt hb; have := h1 b hb'; omega
      · exact h.sep i j u u' hij (by assumption) (by assumption) b hb
  · rcases get j u' hu' with ⟨rfl, rfl⟩ | ⟨hne', hu'⟩
    · intro hb'
      rcases hgn with h1 | h1
      · exact h.sepv i j v g hij hpos hv hk b hb (h1 ▸ hb')
      · obtain ⟨p, c, hvp, h3⟩ := (h.rd i v hv).1
        obtain ⟨b2, ys, hp, hb2⟩ := h3 hpos
        rw [hvp, hp] at hb
        simp [Value.ownBlock] at hb
        subst hb
        have := hb2.lt; have := h1 b2 hb'; omega
    · exact h.sepv i j v u' hij hpos hv hu' b hb
  · rcases get j u hu with ⟨rfl, rfl⟩ | ⟨hne, hu⟩
    · rcases hgn with h1 | h1
      · exact h.low j g hk b (h1 ▸ hb)
      · have := h1 b hb; omega
    · exact h.low j u hu b hb
end Go.V
