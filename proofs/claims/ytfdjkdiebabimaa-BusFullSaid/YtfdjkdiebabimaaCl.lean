/- What is taken was sent: the plain part. Conditions: none. -/
import Derived.Test.YtfdjkdiebabimaaCk
set_option linter.unusedVariables false
set_option linter.unusedSimpArgs false
set_option maxRecDepth 10000
namespace Go.Proofs.Ytfdjkdiebabimaa.Sh
open Go Go.V Go.RowKit Go.Proofs.Ytfdjkdiebabimaa.Bp

theorem ks_set : ∀ (e : List Bool) (n : Nat) (y : Bool), (ks (e.set n y)).length ≤ (ks e).length + 1
  | [], n, y => by simp [ks]
  | b :: e, 0, y => by
    simp only [List.set_cons_zero, ks]
    cases y <;> cases b <;> simp <;> omega
  | b :: e, n + 1, y => by
    have ih := ks_set e n y
    simp only [List.set_cons_succ, ks]
    cases b <;> simp <;> omega
theorem xor_set : ∀ (a e : List Bool) (n : Nat), a.length = e.length → n < a.length → (xorL a e).set n (!((xorL a e)[n]?.getD false)) = xorL a (e.set n (!(e[n]?.getD false)))
  | [], _, _, _, h => by simp at h
  | x :: a, [], _, h, _ => by simp at h
  | x :: a, b :: e, 0, _, _ => by
    simp [xorL]
  | x :: a, b :: e, n + 1, h, hn => by
    have ih := xor_set a e n (by simpa using h) (by simpa using hn)
    simp only [xorL, List.zipWith_cons_cons, List.set_cons_succ, List.getElem?_cons_succ] at ih ⊢
    rw [ih]
theorem flip_xor {a e : List Bool} {n : Int} (h : a.length = e.length) : ∃ e', flipP (xorL a e) n = xorL a e' ∧ a.length = e'.length ∧ (ks e').length ≤ (ks e).length + 1 := by
  unfold flipP
  by_cases hn : 0 ≤ n ∧ n < ((xorL a e).length : Int)
  · rw [if_pos hn]
    rw [xorL_len a e h] at hn
    exact ⟨_, xor_set a e n.toNat h (by omega), by simpa using h, ks_set e _ _⟩
  · rw [if_neg hn]
    exact ⟨e, rfl, h, by omega⟩
theorem flips_xor : ∀ (ns : List Int) (a e : List Bool), a.length = e.length → ∃ e', flipsP (xorL a e) ns = xorL a e' ∧ a.length = e'.length ∧ (ks e').length ≤ (ks e).length + ns.length
  | [], a, e, h => ⟨e, rfl, h, by simp⟩
  | n :: ns, a, e, h => by
    obtain ⟨e1, h1, h2, h3⟩ := flip_xor (n := n) h
    obtain ⟨e2, h4, h5, h6⟩ := flips_xor ns a e1 h2
    refine ⟨e2, ?_, h5, by rw [List.length_cons]; omega⟩
    show flipsP (flipP (xorL a e) n) ns = _
    rw [h1, h4]
theorem xor_zero : ∀ (a : List Bool), xorL a (List.replicate a.length false) = a
  | [] => rfl
  | x :: a => by
    have := xor_zero a
    simp only [xorL] at this ⊢
    rw [List.length_cons, List.replicate_succ, List.zipWith_cons_cons, this]
    cases x <;> rfl
theorem ks_zero : ∀ (n : Nat), ks (List.replicate n false) = []
  | 0 => rfl
  | n + 1 => by rw [List.replicate_succ]; simp [ks, ks_zero n]
theorem flips_bits (a : List Bool) (ns : List Int) : ∃ e, flipsP a ns = xorL a e ∧ e.length = a.length ∧ (ks e).length ≤ ns.length := by
  obtain ⟨e, h1, h2, h3⟩ := flips_xor ns a (List.replicate a.length false) (by simp)
  rw [xor_zero] at h1
  rw [ks_zero] at h3
  exact ⟨e, h1, h2.symm, by simpa using h3⟩
/-- Bits that carry a frame that was sent, turned in at most five places. -/
def Carried (sent : List Snt) (x : DLate) : Prop := ∃ f e, (x.src, f) ∈ sent ∧ Valid f ∧ x.bits = xorL (bitsP f) e ∧ e.length = (bitsP f).length ∧ (ks e).length ≤ 5
structure Good (sent : List Snt) (ss : List PS) (lt : List DLate) : Prop where
  out : ∀ (k : Nat) (s : PS), ss[k]? = some s → ∀ f ∈ s.out, Valid f ∧ ((k : Int), f) ∈ sent
  inn : ∀ (k : Nat) (s : PS), ss[k]? = some s → ∀ f ∈ s.inn, ∃ j : Int, j ≠ k ∧ (j, f) ∈ sent
  late : ∀ x ∈ lt, Carried sent x
theorem Carried.mono {sent sent' : List Snt} {x : DLate} (h : Carried sent x) (hs : ∀ p ∈ sent, p ∈ sent') : Carried sent' x := by
  obtain ⟨f, e, h1, h2⟩ := h
  exact ⟨f, e, hs _ h1, h2⟩
theorem Good.mono {sent sent' : List Snt} {ss : List PS} {lt : List DLate} (h : Good sent ss lt) (hs : ∀ p ∈ sent, p ∈ sent') : Good sent' ss lt :=
  ⟨fun k s hk f hf => ⟨(h.out k s hk f hf).1, hs _ (h.out k s hk f hf).2⟩, fun k s hk f hf => let ⟨j, h1, h2⟩ := h.inn k s hk f hf; ⟨j, h1, hs _ h2⟩, fun x hx => (h.late x hx).mono hs⟩
theorem Good.outOk {sent : List Snt} {ss : List PS} {lt : List DLate} (h : Good sent ss lt) : OutOk ss := fun s hs f hf => by
  obtain ⟨k, hk⟩ := List.mem_iff_getElem?.1 hs
  exact (h.out k s hk f hf).1
theorem carried_dec {sent : List Snt} {x : DLate} (h : Carried sent x) : decodeP (wireP x.bits) = none ∨ ∃ f, decodeP (wireP x.bits) = some f ∧ (x.src, f) ∈ sent := by
  obtain ⟨f, e, h1, h2, h3, h4, h5⟩ := h
  rw [h3]
  rcases honest f h2 e h4 h5 with h | h
  · exact .inl h
  · exact .inr ⟨f, h, h1⟩
theorem hear_io (N : Nat) (r : Option DFr) (s : PS) : (hearP N r s).out = s.out ∧ ∀ f ∈ (hearP N r s).inn, f ∈ s.inn ∨ r = some f := by
  unfold hearP
  split
  · exact ⟨rfl, fun f hf => .inl hf⟩
  · split
    · split
      · exact ⟨rfl, fun f hf => .inl hf⟩
      · refine ⟨rfl, fun f hf => ?_⟩
        rcases List.mem_append.1 hf with hf | hf
        · exact .inl hf
        · simp at hf; subst hf; exact .inr rfl
    · exact ⟨rfl, fun f hf => .inl hf⟩
theorem Good.tell {sent : List Snt} {ss : List PS} {lt : List DLate} {N : Nat} {src : Int} {r : Option DFr} (h : Good sent ss lt) (hr : ∀ f, r = some f → (src, f) ∈ sent) : Good sent (tellP N src r ss) lt := by
  have key : ∀ (k : Nat) (s : PS), (tellP N src r ss)[k]? = some s → ∃ s0, ss[k]? = some s0 ∧ (s = s0 ∨ ((k : Int) ≠ src ∧ s = hearP N r s0)) := by
    intro k s hk
    unfold tellP at hk
    rw [tellTo_get] at hk
    obtain ⟨s0, hs0, rfl⟩ := Option.map_eq_some_iff.1 hk
    refine ⟨s0, hs0, ?_⟩
    by_cases hc : k < ss.length ∧ (k : Int) ≠ src
    · rw [if_pos hc]; exact .inr ⟨hc.2, rfl⟩
    · rw [if_neg hc]; exact .inl rfl
  refine ⟨fun k s hk f hf => ?_, fun k s hk f hf => ?_, h.late⟩
  · obtain ⟨s0, hs0, rfl | ⟨_, rfl⟩⟩ := key k s hk
    · exact h.out k _ hs0 f hf
    · rw [(hear_io N r s0).1] at hf
      exact h.out k _ hs0 f hf
  · obtain ⟨s0, hs0, rfl | ⟨hne, rfl⟩⟩ := key k s hk
    · exact h.inn k _ hs0 f hf
    · rcases (hear_io N r s0).2 f hf with hf | hf
      · exact h.inn k _ hs0 f hf
      · exact ⟨src, fun he => hne he.symm, hr f hf⟩
theorem Good.comes {sent : List Snt} {ss : List PS} {lt : List DLate} {N : Nat} {x : DLate} (h : Good sent ss lt) (hx : Carried sent x) : Good sent (comesP N x ss) lt := by
  have hr : ∀ f, decodeP (wireP x.bits) = some f → (x.src, f) ∈ sent := by
    intro f hf
    rcases carried_dec hx with h | ⟨g, h1, h2⟩
    · rw [h] at hf; cases hf
    · rw [h1] at hf; injection hf with hf; subst hf; exact h2
  unfold comesP
  split
  · exact (h.tell hr).tell hr
  · exact h.tell hr
theorem Good.set {sent : List Snt} {ss : List PS} {lt : List DLate} {j : Nat} {s s' : PS} (h : Good sent ss lt) (hj : ss[j]? = some s) (ho : ∀ f ∈ s'.out, Valid f ∧ ((j : Int), f) ∈ sent) (hi : ∀ f ∈ s'.inn, f ∈ s.inn) : Good sent (ss.set j s') lt := by
  have hjl := (List.getElem?_eq_some_iff.1 hj).1
  refine ⟨fun k t hk f hf => ?_, fun k t hk f hf => ?_, h.late⟩
  · by_cases hjk : j = k
    · subst hjk
      rw [List.getElem?_set_self hjl] at hk
      injection hk with hk; subst hk
      exact ho f hf
    · rw [List.getElem?_set_ne hjk] at hk
      exact h.out k t hk f hf
  · by_cases hjk : j = k
    · subst hjk
      rw [List.getElem?_set_self hjl] at hk
      injection hk with hk; subst hk
      exact h.inn _ _ hj f (hi f hf)
    · rw [List.getElem?_set_ne hjk] at hk
      exact h.inn k t hk f hf
theorem Good.goes {sent : List Snt} {ss : List PS} {lt : List DLate} {N j : Nat} {f : DFr} {x : DWire} (h : Good sent ss lt) (hf : firstP ss = some (j, f)) (h5 : x.flips.length ≤ 5) : Good sent (goesP N ss j f x).1 lt ∧ ∀ y ∈ (goesP N ss j f x).2, Carried sent y := by
  obtain ⟨s, q, hs, ho⟩ := firstTo_get ss _ hf
  obtain ⟨hva, hse⟩ := h.out j s hs f (by rw [ho]; simp)
  have hg : Good sent (ss.set j (goneS s)) lt := h.set hs (fun g hg => h.out j s hs g (List.mem_of_mem_tail hg)) (fun g hg => hg)
  have hc : Carried sent ⟨(j : Int), flipsP (bitsP f) x.flips, x.twice, x.late⟩ := by
    obtain ⟨e, h1, h2, h3⟩ := flips_bits (bitsP f) x.flips
    exact ⟨f, e, hse, hva, h1, h2, by omega⟩
  unfold goesP
  rw [hs]
  simp only
  split
  · exact ⟨hg, by simp⟩
  · split
    · exact ⟨hg, fun y hy => by simp at hy; subst hy; exact hc⟩
    · exact ⟨hg.comes hc, by simp⟩
theorem Good.lates {sent : List Snt} {N : Nat} {lt : List DLate} : ∀ (l : List DLate) (acc : List PS × List DLate), Good sent acc.1 lt → (∀ y ∈ acc.2, Carried sent y) → (∀ y ∈ l, Carried sent y) →
    Good sent (l.foldl (lateStep N) acc).1 lt ∧ ∀ y ∈ (l.foldl (lateStep N) acc).2, Carried sent y
  | [], acc, h, h1, _ => ⟨h, h1⟩
  | x :: l, acc, h, h1, h2 => by
    have hx : Carried sent ⟨x.src, x.bits, x.twice, IntKind.i64.wrap (x.wait - 1)⟩ := h2 x (by simp)
    show Good sent (l.foldl (lateStep N) (lateStep N acc x)).1 lt ∧ ∀ y ∈ (l.foldl (lateStep N) (lateStep N acc x)).2, Carried sent y
    have : Good sent (lateStep N acc x).1 lt ∧ ∀ y ∈ (lateStep N acc x).2, Carried sent y := by
      unfold lateStep
      simp only
      split
      · refine ⟨h, fun y hy => ?_⟩
        rcases List.mem_append.1 hy with hy | hy
        · exact h1 y hy
        · simp at hy; subst hy; exact hx
      · exact ⟨h.comes hx, h1⟩
    exact Good.lates l _ this.1 this.2 fun y hy => h2 y (by simp [hy])
theorem Good.tick {sent : List Snt} {ss : List PS} {lt : List DLate} {N : Nat} {x : DWire} (h : Good sent ss lt) (h5 : x.flips.length ≤ 5) : Good sent (tickP N ss lt x).2.1 (tickP N ss lt x).2.2 := by
  unfold tickP
  cases hf : firstP ss with
  | none =>
    simp only
    split
    · exact h
    · obtain ⟨h1, h2⟩ := Good.lates (lt := lt) lt (ss, []) h (by simp) h.late (N := N)
      exact ⟨h1.out, h1.inn, h2⟩
  | some p =>
    obtain ⟨j, f⟩ := p
    simp only
    obtain ⟨g1, g2⟩ := h.goes hf h5 (N := N)
    obtain ⟨h1, h2⟩ := Good.lates (lt := lt) lt ((goesP N ss j f x).1, []) g1 (by simp) h.late (N := N)
    refine ⟨h1.out, h1.inn, fun y hy => ?_⟩
    rcases List.mem_append.1 hy with hy | hy
    · exact h2 y hy
    · exact g2 y hy
theorem tick_err (N : Nat) (ss : List PS) (lt : List DLate) (x : DWire) : (tickP N ss lt x).1 = 0 ∨ (tickP N ss lt x).1 = 25 := by
  unfold tickP
  split
  · split
    · exact .inr rfl
    · exact .inl rfl
  · exact .inl rfl
theorem tick_len (N : Nat) (ss : List PS) (lt : List DLate) (x : DWire) : (tickP N ss lt x).2.1.length = ss.length ∧ (tickP N ss lt x).2.2.length ≤ lt.length + 1 := by
  unfold tickP
  split
  · split
    · exact ⟨rfl, by simp⟩
    · refine ⟨lateP_len N lt (ss, []), ?_⟩
      have := lateP_few N lt (ss, [])
      unfold lateP; simp at this ⊢; omega
  · refine ⟨(lateP_len N lt _).trans (goesP_len _ _ _ _ _), ?_⟩
    rename_i j f _
    have h1 := lateP_few N lt ((goesP N ss j f x).1, [])
    have h2 := goesP_few N ss j f x
    unfold lateP; simp at h1 ⊢; omega
theorem send_len (N : Nat) (ss : List PS) (n : Int) (f : DFr) : (sendP N ss n f).2.length = ss.length := by
  unfold sendP
  split
  · split
    · rfl
    · split <;> simp
  · rfl
theorem take_len (ss : List PS) (n : Int) : (takeP ss n).2.length = ss.length := by
  unfold takeP
  split
  · split <;> simp
  · rfl
theorem Good.send {sent : List Snt} {ss : List PS} {lt : List DLate} {N : Nat} {n : Int} {f : DFr} (h : Good sent ss lt) (hr : InR f) :
    ((sendP N ss n f).1 = 0 → Good (sent ++ [(n, f)]) (sendP N ss n f).2 lt) ∧ ((sendP N ss n f).1 ≠ 0 → Good sent (sendP N ss n f).2 lt) := by
  unfold sendP
  cases ht : there? n ss with
  | false => simp only [Bool.false_eq_true, if_false]; exact ⟨fun hh => absurd hh (by decide), fun _ => h⟩
  | true =>
    obtain ⟨h0, hl⟩ := there_get ht
    rw [if_pos rfl]
    by_cases he : encErr f = 0
    · rw [if_neg (by rw [he]; simp)]
      have hs : ss[n.toNat]? = some ss[n.toNat] := List.getElem?_eq_getElem hl
      rw [hs]
      simp only
      have hva := valid_of he hr
      by_cases hf : ss[n.toNat].out.length = N
      · rw [if_pos hf]
        refine ⟨fun hh => absurd hh (by decide), fun _ => h.set hs (fun g hg => ?_) (fun g hg => hg)⟩
        have : pushQ N ss[n.toNat].out f = ss[n.toNat].out := by unfold pushQ; rw [if_pos hf]
        rw [this] at hg
        exact h.out _ _ hs g hg
      · rw [if_neg hf]
        refine ⟨fun _ => ?_, fun hn => absurd rfl hn⟩
        have h' := h.mono (sent' := sent ++ [(n, f)]) (fun p hp => by simp [hp])
        refine h'.set hs (fun g hg => ?_) (fun g hg => hg)
        have : pushQ N ss[n.toNat].out f = ss[n.toNat].out ++ [f] := by unfold pushQ; rw [if_neg hf]
        rw [this] at hg
        rcases List.mem_append.1 hg with hg | hg
        · exact h'.out _ _ hs g hg
        · simp at hg; subst hg
          exact ⟨hva, by rw [show ((n.toNat : Nat) : Int) = n by omega]; simp⟩
    · rw [if_pos he]
      exact ⟨fun hh => absurd hh he, fun _ => h⟩
theorem send_err {N : Nat} {ss : List PS} {n : Int} {f : DFr} : 0 ≤ (sendP N ss n f).1 ∧ (sendP N ss n f).1 ≤ 26 := by
  have he : 0 ≤ encErr f ∧ encErr f ≤ 26 := by
    unfold encErr
    split
    · decide
    · split <;> decide
  unfold sendP
  split
  · split
    · exact he
    · split
      · simp only; split <;> decide
      · exact ⟨by show (0 : Int) ≤ 1; decide, by show (1 : Int) ≤ 26; decide⟩
  · exact ⟨by show (0 : Int) ≤ 1; decide, by show (1 : Int) ≤ 26; decide⟩
theorem Good.take {sent : List Snt} {ss : List PS} {lt : List DLate} {n : Int} (h : Good sent ss lt) : Good sent (takeP ss n).2 lt ∧ ∀ f, (takeP ss n).1 = .inr f → amongP sent n f = true := by
  unfold takeP
  cases ht : there? n ss with
  | false => simp only [Bool.false_eq_true, if_false]; exact ⟨h, fun f hf => (by cases hf)⟩
  | true =>
    obtain ⟨h0, hl⟩ := there_get ht
    rw [if_pos rfl]
    have hs : ss[n.toNat]? = some ss[n.toNat] := List.getElem?_eq_getElem hl
    rw [hs]
    simp only
    refine ⟨h.set hs (fun g hg => h.out _ _ hs g hg) (fun g hg => List.mem_of_mem_tail hg), fun f hf => ?_⟩
    cases hi : ss[n.toNat].inn with
    | nil => rw [hi] at hf; cases hf
    | cons g q =>
      rw [hi] at hf
      injection hf with hf; subst hf
      obtain ⟨j, h1, h2⟩ := h.inn _ _ hs g (by rw [hi]; simp)
      exact List.any_eq_true.2 ⟨_, h2, by simp; omega⟩
theorem Good.new (ll : List (List DRule)) : Good [] (ll.map PS.new) [] := by
  refine ⟨fun k s hk f hf => ?_, fun k s hk f hf => ?_, by simp⟩
  · rw [List.getElem?_map] at hk
    obtain ⟨l, _, rfl⟩ := Option.map_eq_some_iff.1 hk
    simp [PS.new] at hf
  · rw [List.getElem?_map] at hk
    obtain ⟨l, _, rfl⟩ := Option.map_eq_some_iff.1 hk
    simp [PS.new] at hf
end Go.Proofs.Ytfdjkdiebabimaa.Sh
