/- Lists that are lent: each element lent, marks behind them. Conditions: lengths up to 2^30. -/
import Derived.Test.YtmgleeoecdodjaaV12
set_option linter.unusedVariables false
set_option linter.unusedSimpArgs false
namespace Go.V
open Go.RowKit
variable {P : Program}
theorem LSl.map {α β : Type} {m : Mem} {sz : Nat} {R : List Value → β → Prop} {mark : Nat → List Value} {g : α → β} {v : Value} {l : List α} (h : LSl m sz (fun cs p => R cs (g p)) mark v l) : LSl m sz R mark v (l.map g) := by
  obtain ⟨b, c, h1, h2, h3, h4⟩ := h.h
  refine ⟨⟨b, c, by simpa using h1, by simpa using h2, fun i x hx => ?_, by simpa using h4⟩⟩
  rw [List.getElem?_map] at hx
  obtain ⟨y, hy, rfl⟩ := Option.map_eq_some_iff.1 hx
  exact h3 i y hy
/-- What is lent: one cell, made in new memory. -/
structure Lent (Φ : Value → Mem → Prop) (w : World) (v : Value) (w' : World) : Prop where
  one : v.oneCell' = true
  cells : v.cells = #[v]
  made : Made w (Φ v) w'
/-- An element lent: its cells, and what they lead to in new memory. -/
structure LentEl {α : Type} (sz : Nat) (Rl : Mem → List Value → α → Prop) (x : α) (w : World) (r : Value) (w' : World) : Prop where
  h : ∃ cs : List Value, r = .agg cs.toArray ∧ cs.length = sz ∧ (∀ u ∈ cs, u.oneCell' = true) ∧ Made w (fun M => Rl M cs x) w'
/-- What has been lent so far. -/
structure Lending {α : Type} (e sz : Nat) (Rl : Mem → List Value → α → Prop) (xs : List α) (w : World) (more : List Value) (mn : Nat) (v : Value) (w' : World) : Prop where
  h : ∃ (M : Mem) (q : List (α × List Value)), q.map (·.1) = xs ∧ Own w' e sz v (xs.length + mn) (q.flatMap (·.2) ++ more) ∧ (∀ g, v.ownBlock = some g → w.heap.size ≤ g) ∧ Ext w w' ∧ Sub M w' ∧ Low M w.heap.size ∧ (∀ g, v.ownBlock = some g → Off M g) ∧ ∀ p ∈ q, p.2.length = sz ∧ Rl M p.2 p.1
theorem Lending.start {α : Type} (e sz : Nat) (Rl : Mem → List Value → α → Prop) (w : World) : Lending e sz Rl [] w [] 0 (.slice none 0 0) w :=
  ⟨fun _ _ => none, [], rfl, Own.nil _ _ _, fun g hg => by simp [Value.ownBlock] at hg, Ext.refl _, fun _ _ _ h => by simp at h, fun _ _ _ h => by simp at h, fun g hg => by simp [Value.ownBlock] at hg, by simp⟩
theorem Lending.push {α : Type} {t e sz bytes ty : Nat} {Rl : Mem → List Value → α → Prop} {xs : List α} {w w1 w2 w3 : World} {v : Value} {x : α} {cs : List Value} {K : Value → World → Prop} (ht : SlT P t e sz bytes) (h : Lending e sz Rl xs w [] 0 v w1)
    (hm : Made w1 (fun M => Rl M cs x) w2) (e23 : Ext w2 w3) (hl : cs.length = sz) (h1 : ∀ u ∈ cs, u.oneCell' = true) (hn : xs.length ≤ 1073741824) (hb : bytes ≤ 65536)
    (hmono : ∀ M M' cs x, (∀ b o v, M b o = some v → M' b o = some v) → Rl M cs x → Rl M' cs x) (k : ∀ v' w', Lending e sz Rl (xs ++ [x]) w [] 0 v' w' → K v' w') :
    Run P (Instr.buildSlice t 1 #[(0, .agg cs.toArray)]) w3 fun y w4 => Run P (Builtin.append_ #[t, t] ty #[v, y]) w4 K := by
  obtain ⟨M, q, hq, hown, hlow, hext, hsub, hlowM, hoff, hel⟩ := h.h
  obtain ⟨e12, M', hsub', hlow', hR⟩ := hm
  have e13 := e12.trans e23
  have hown3 := hown.ext e13
  have hlb : (xs.length + 0 + 1) * bytes ≤ 140737488355328 := Nat.le_trans (Nat.mul_le_mul (show xs.length + 0 + 1 ≤ 1073741825 by omega) hb) (by decide)
  refine r_append1 ht hown3 (by simpa [Value.cells] using hl) (by simpa [Value.cells] using h1) (by unfold maxLen; omega) hlb fun v' w' ho hg => ?_
  have hsz : w.heap.size ≤ w3.heap.size := Nat.le_trans hext.size e13.size
  have s1 : Sub M w3 := hsub.ext e13
  have s2 : Sub M' w3 := hsub'.ext e23
  have hoff' : ∀ g, v.ownBlock = some g → Off (M.and M') g := fun g hg => (hoff g hg).and (.of_low hlow' (hown.lt hg))
  refine k v' w' ⟨M.and M', q ++ [(x, cs)], by simp [hq], ?_, hg.low hsz hlow, Below.trans (hext.trans e13) (hg.below hsz hlow), (s1.and s2).grow hg hoff', (hlowM.and (hlow'.mono hext.size)), hg.off (s1.and s2) hoff', ?_⟩
  · simpa [Value.cells] using ho
  · intro p hp
    rcases List.mem_append.1 hp with hp | hp
    · obtain ⟨h2, h3⟩ := hel p hp
      exact ⟨h2, hmono _ _ _ _ (and_left M M') h3⟩
    · simp only [List.mem_singleton] at hp
      subst hp
      exact ⟨hl, hmono _ _ _ _ (and_right s1 s2) hR⟩
theorem Lending.mark {α : Type} {t e sz bytes ty mn : Nat} {Rl : Mem → List Value → α → Prop} {xs : List α} {w w1 : World} {v : Value} {more mk : List Value} {K : Value → World → Prop} (ht : SlT P t e sz bytes) (h : Lending e sz Rl xs w more mn v w1)
    (hl : mk.length = sz) (h1 : ∀ u ∈ mk, u.oneCell' = true) (hn : xs.length + mn ≤ 1073741840) (hb : bytes ≤ 65536) (k : ∀ v' w', Lending e sz Rl xs w (more ++ mk) (mn + 1) v' w' → K v' w') :
    Run P (Instr.buildSlice t 1 #[(0, .agg mk.toArray)]) w1 fun y w4 => Run P (Builtin.append_ #[t, t] ty #[v, y]) w4 K := by
  obtain ⟨M, q, hq, hown, hlow, hext, hsub, hlowM, hoff, hel⟩ := h.h
  have hlb : (xs.length + mn + 1) * bytes ≤ 140737488355328 := Nat.le_trans (Nat.mul_le_mul (show xs.length + mn + 1 ≤ 1073741841 by omega) hb) (by decide)
  refine r_append1 ht hown (by simpa [Value.cells] using hl) (by simpa [Value.cells] using h1) (by unfold maxLen; omega) hlb fun v' w' ho hg => ?_
  have hsz := hext.size
  refine k v' w' ⟨M, q, hq, ?_, hg.low hsz hlow, Below.trans hext (hg.below hsz hlow), hsub.grow hg hoff, hlowM, hg.off hsub hoff, hel⟩
  simpa [Value.cells, Nat.add_assoc] using ho
theorem Lending.done {α : Type} {e sz : Nat} {Rl : Mem → List Value → α → Prop} {xs : List α} {w w1 : World} {v : Value} {mk : List Value} (h : Lending e sz Rl xs w ((List.range 16).flatMap fun _ => mk) 16 v w1) (hl : mk.length = sz)
    (hmono : ∀ M M' cs x, (∀ b o v, M b o = some v → M' b o = some v) → Rl M cs x → Rl M' cs x) :
    ∃ g c, v = .slice (some ⟨g, 0, none⟩) (xs.length + 16) c ∧ xs.length + 16 ≤ c ∧ Lent (fun v M => LSl M sz (Rl M) (fun _ => mk) v xs) w (.slice (some ⟨g, 0, none⟩) xs.length c) w1 := by
  obtain ⟨M, q, hq, hown, hlow, hext, hsub, hlowM, hoff, hel⟩ := h.h
  have hql : q.length = xs.length := by rw [← hq, List.length_map]
  rw [← hql] at hown
  obtain ⟨g, c, rfl, hc, hL⟩ := hown.lslG (R := fun cs p => Rl M cs p.1) (mark := fun _ => mk) (fun p hp => (hel p hp).1) (fun _ => hl) (fun p hp => (hel p hp).2)
  rw [hql] at hL hc
  have hL' := LSl.map (g := Prod.fst) hL
  rw [hq] at hL'
  have sg := Sub.memG w1 g
  refine ⟨g, c, by rw [hql], hc, rfl, rfl, hext, M.and (memG w1 g), hsub.and sg, hlowM.and (Low.memG (hlow g rfl)), ?_⟩
  exact (hL'.mono (and_right hsub sg)).imp fun cs x hR => hmono _ _ _ _ (and_left M _) hR
/-- The list of lent elements, with sixteen marks behind it. -/
theorem r_lend {α : Type} {t e sz bytes ty f I : Nat} {fs : Array (Nat × Value)} {mk z : List Value} {m : Mem} {R : List Value → α → Prop} {Rl : Mem → List Value → α → Prop} {v : Value} {xs : List α} {w : World} {K : Value → World → Prop}
    {o1 o2 o3 o4 o5 o6 o7 o8 : Operand} (ht : SlT P t e sz bytes) (ha : aggB P e sz = true) (hz : zeroOf P e = some z) (hzl : z.length = sz) (hpl : plainFn P f = true) (hmk : mk.length = sz) (hmk1 : ∀ u ∈ mk, u.oneCell' = true)
    (hbd : ∀ w, (Instr.build e fs).run P w = .ok (.agg mk.toArray) w) (hv : Sl m sz R v xs) (hm : Sub m w) (hn : xs.length ≤ 1073741824) (hb : bytes ≤ 65536)
    (hel : ∀ w1 x cs, Ext w w1 → x ∈ xs → cs.length = sz → R cs x → Does P f [.agg cs.toArray] w1 (LentEl sz Rl x w1))
    (hmono : ∀ M M' cs x, (∀ b o v, M b o = some v → M' b o = some v) → Rl M cs x → Rl M' cs x)
    (hk : ∀ r w', Lent (fun v M => LSl M sz (Rl M) (fun _ => mk) v xs) w r w' → K r w') :
    LoopP 2 (fun (k2 : N2) => (fun (out_3 : Value) (i_4 : Value) (w1 : World) =>
      Run P (Builtin.len_ #[t] I #[v]) w1 fun t9 w2 =>
      Run P (binSem .lss I o1 o2 i_4 t9) w2 fun t10 w3 =>
      CondP t10 0 (fun (k3 : N0) => k3 w3)
      (fun (k4 : N0) =>
        LoopP 2 (fun (k7 : N2) => (fun (out_3 : Value) (i_6 : Value) (w16 : World) =>
          Run P (binSem .lss I o3 o4 i_6 (.int .i64 16)) w16 fun t23 w17 =>
          CondP t23 0 (fun (k8 : N0) => k8 w17)
          (fun (k9 : N0) =>
            Run P (Builtin.len_ #[t] I #[v]) w17 fun t32 w25 =>
            Run P (Instr.sliceAt t out_3 none (some t32) none) w25 fun t33 w26 => K t33 w26)
          (fun (w18 : World) =>
            Run P (Instr.build e fs) w18 fun t27 w19 =>
            Run P (Instr.buildSlice t 1 #[(0, t27)]) w19 fun t28 w20 =>
            Run P (Builtin.append_ #[t, t] ty #[out_3, t28]) w20 fun t29 w21 =>
            Run P (binSem .add I o5 o6 i_6 (.int .i64 1)) w21 fun t25 w23 =>
            k7 t29 t25 w23)))
        [out_3, (.int .i64 0)] w3)
      (fun (w4 : World) =>
        Run P (Instr.indexAt t v i_4) w4 fun t15 w5 =>
        Run P (Instr.loadAt e t15) w5 fun t16 w6 =>
        GoN P (callFunc f #[t16]) w6 fun t17 w7 =>
        Run P (Instr.alloc e true (.tuple #[])) w7 fun x_5 w8 =>
        RunU P (Instr.storeAt e x_5 t17) w8 fun w9 =>
        Run P (Instr.loadAt e x_5) w9 fun t19 w10 =>
        Run P (Instr.buildSlice t 1 #[(0, t19)]) w10 fun t20 w11 =>
        Run P (Builtin.append_ #[t, t] ty #[out_3, t20]) w11 fun t21 w12 =>
        Run P (binSem .add I o7 o8 i_4 (.int .i64 1)) w12 fun t12 w14 =>
        k2 t21 t12 w14)))
    [(.slice none 0 0), (.int .i64 0)] w := by
  obtain ⟨p, c, rfl, hc⟩ := hv.form
  refine LoopP.of2 (fun out i w' => ∃ k : Nat, k ≤ xs.length ∧ i = .int .i64 k ∧ Lending e sz Rl (xs.take k) w [] 0 out w') (fun _ i _ => xs.length - (intOf i).toNat) ⟨0, Nat.zero_le _, rfl, Lending.start e sz Rl w⟩ ?_
  rintro out i w1 ⟨k, hk1, rfl, hL⟩
  simp only [Pure.run (p_len ht.slice), lss_r]
  refine CondP.dec (fun h => ?_) (fun h => ?_)
  · have hk' : k < xs.length := by omega
    obtain ⟨x, hx⟩ : ∃ x, xs[k]? = some x := ⟨xs[k], by simp [hk']⟩
    obtain ⟨b, o, cs, rfl, _, _, hcl, hat, hR⟩ := hv.get hx
    have hx1 : Ext w w1 := by obtain ⟨_, _, _, _, _, hh, _⟩ := hL.h; exact hh
    show Run _ _ _ _
    rw [Pure.run (p_idx (e := e) (sz := sz) ht.slice ht.size (by omega) (by omega))]
    refine r_loadN ha hcl (by have := hat w1 (hm.ext hx1); simpa using this) ?_
    refine GoN.does hpl (hel w1 x cs hx1 (List.mem_of_getElem? hx) hcl hR) ?_
    rintro r w2 ⟨cs', rfl, hcl', hone, hmade⟩
    refine r_alloc hz fun w3 e3 z3 b3 => ?_
    refine r_store ht.size rfl (by simpa [Value.cells] using hcl') (by simpa [Value.cells] using hone) b3 (by omega) fun w4 c4 b4 => ?_
    have hs4 : splice z 0 (Value.agg cs'.toArray).cells.toList = cs' := by
      simp only [Value.cells, splice, List.take_zero, List.nil_append]
      rw [List.drop_eq_nil_of_le (by simp; omega)]; simp
    rw [hs4] at b4
    rw [ldN b4 ha (o := 0) (by simp [hcl'])]
    simp only [List.drop_zero]
    rw [show cs'.take sz = cs' from List.take_of_length_le (by omega)]
    refine hL.push ht hmade (e3.chg c4 (Nat.le_refl _)) hcl' hone (by simp; omega) hb hmono fun v' w5 hL' => ?_
    simp only [add_r]
    refine ⟨⟨k + 1, by omega, succ64 (by omega), ?_⟩, ?_⟩
    · rw [List.take_succ_eq_append_getElem hk', (List.getElem?_eq_some_iff.1 hx).2]; exact hL'
    · rw [succ64 (by omega)]; simp [intOf]; omega
  · obtain rfl : k = xs.length := by omega
    rw [List.take_length] at hL
    refine LoopP.of2 (fun out i w' => ∃ j : Nat, j ≤ 16 ∧ i = .int .i64 j ∧ Lending e sz Rl xs w ((List.range j).flatMap fun _ => mk) j out w') (fun _ i _ => 16 - (intOf i).toNat) ⟨0, Nat.zero_le _, rfl, hL⟩ ?_
    clear hL
    rintro out i w2 ⟨j, hj, rfl, hL⟩
    simp only [lss_r]
    refine CondP.dec (fun h => ?_) (fun h => ?_)
    · show Run _ _ _ _
      rw [Run.eq (hbd _)]
      refine hL.mark ht hmk hmk1 (by omega) hb fun v' w5 hL' => ?_
      simp only [add_r]
      refine ⟨⟨j + 1, by omega, succ64 (by omega), ?_⟩, ?_⟩
      · rw [List.range_succ, List.flatMap_append]; simpa using hL'
      · rw [succ64 (by omega)]; simp [intOf]; omega
    · obtain rfl : j = 16 := by omega
      obtain ⟨g, c', rfl, hc', hLent⟩ := hL.done hmk hmono
      try simp only [Pure.run (p_len ht.slice)]
      rw [Pure.run (p_upto ht.slice ht.size (by omega) (by omega))]
      exact hk _ _ hLent
end Go.V
