/- Copies of lists of texts, rows and signals, and of stations, messages and tables. Conditions: lengths up to 2^30. -/
import Derived.Test.YtmgleeoecdodjaaDoorTb
import Derived.Test.YtmgleeoecdodjaaDoorV11
set_option linter.unusedVariables false
set_option linter.unusedSimpArgs false
set_option maxRecDepth 10000
namespace Go.V
open Go.RowKit
variable {P : Program}
theorem Own.one {w : World} {e sz n : Nat} {v : Value} {xs : List Value} (h : Own w e sz v n xs) : v.oneCell' = true ∧ v.cells = #[v] := by
  obtain ⟨p, c, rfl, _⟩ := h.len
  exact ⟨rfl, rfl⟩
/-- 'x.f = copy(x.f); return x', for the last cell of a struct. -/
theorem r_field0 {α : Type} {t u n off f g e sz : Nat} {pre : List Value} {v : Value} {w : World} {K : Value → World → Prop} {R : List Value → α → Prop} {l : List α}
    (ha : aggB P t n = true) {z : List Value} (hz : zeroOf P t = some z) (hzn : z.length = n) (hsz : sizeB P t n = true) (hfl : fieldB P t f off = true) (hu : oneB P u = true) (hsu : sizeB P u 1 = true) (hg : plainFn P g = true)
    (hpre : pre.length = off) (hn : n = off + 1) (hone : ∀ x ∈ pre, x.oneCell' = true)
    (hd : ∀ w1, Ext w w1 → Does P g [v] w1 (Cloned e sz R l w1))
    (hR : ∀ v' w', Cloned e sz R l w v' w' → K (.agg (pre ++ [v']).toArray) w') :
    Run P (Instr.box t (.agg (pre ++ [v]).toArray)) w fun s_1 w1 =>
    Run P (Instr.alloc t true (.tuple #[])) w1 fun t2 w2 =>
    Run P (Instr.fieldAt t s_1 f) w2 fun t3 w3 =>
    Run P (Instr.loadAt u t3) w3 fun t4 w4 =>
    GoN P (callFunc g #[t4]) w4 fun t5 w5 =>
    Run P (Instr.fieldAt t s_1 f) w5 fun t6 w6 =>
    RunU P (Instr.storeAt u t6 t5) w6 fun w7 =>
    Run P (Instr.loadAt t s_1) w7 fun t7 w8 =>
    RunU P (Instr.storeAt t t2 t7) w8 fun w9 =>
    resK P t2 t w9 fun r0 => K r0 w9 := by
  refine r_box fun w1 e1 z1 b1 => ?_
  refine r_alloc hz fun w2 e2 z2 b2 => ?_
  have b1 : Blk w2 w.heap.size (pre ++ [v]) t := by have := b1.ext e2; simpa [Value.cells] using this
  rw [Pure.run (p_field hfl), ld1 b1 hu (o := 0 + off) (v := v) (by simp [hpre])]
  refine GoN.does hg (hd w2 (e1.trans e2)) ?_
  intro v' w3 hc
  obtain ⟨ps, _, _, hown⟩ := hc.own
  obtain ⟨ho1, ho2⟩ := hown.one
  rw [Pure.run (p_field hfl)]
  refine r_store hsu (by rw [ho2]) rfl (by simpa using ho1) (b1.ext hc.ext) (by simp [hpre]) fun w4 c4 b4 => ?_
  have hs4 : splice (pre ++ [v]) (0 + off) [v'] = pre ++ [v'] := by subst hpre; simp [splice]
  rw [hs4] at b4
  rw [ldN b4 ha (o := 0) (by simp [hpre, hn])]
  simp only [List.drop_zero]
  rw [show (pre ++ [v']).take n = pre ++ [v'] from List.take_of_length_le (by simp; omega)]
  refine r_store hsz rfl (by simp [Value.cells, hpre, hn]) (fun x hx => by
    simp only [Value.cells, List.mem_append, List.mem_singleton] at hx
    rcases hx with hx | hx
    · exact hone x hx
    · subst hx; exact ho1) ((b2.ext hc.ext).chg c4 (by omega)) (by omega) fun w5 c5 b5 => ?_
  have hs5 : splice z 0 (pre ++ [v']) = pre ++ [v'] := by simp [splice, hpre, hzn, hn]
  have b5' : Blk w5 w1.heap.size (pre ++ [v']) t := by simpa [Value.cells, hs5] using b5
  refine k_loadN ha (l := pre ++ [v']) (by simp [hpre, hn]) (by have := b5'.at; exact this) ?_
  refine hR v' w5 (((hc.mono (e1.trans e2)).chg c4 (by omega) (fun h => ?_)).chg c5 (by omega) fun h => ?_)
  · have := hc.low _ h; omega
  · have := hc.low _ h; omega
end Go.V
namespace Go.Proofs.YtmgleeoecdodjaaDoor.Sh
open Go Go.V Go.RowKit

theorem lit0s (w : World) : (Instr.buildSlice 26 0 #[]).run Tryd.prog w = .ok (.slice (some ⟨w.heap.size, 0, none⟩) 0 0) (w.alloc (.cells #[] 9)) := by kernel_rfl
theorem lit0g (w : World) : (Instr.buildSlice 75 0 #[]).run Tryd.prog w = .ok (.slice (some ⟨w.heap.size, 0, none⟩) 0 0) (w.alloc (.cells #[] 130)) := by kernel_rfl
theorem lit0r (w : World) : (Instr.buildSlice 79 0 #[]).run Tryd.prog w = .ok (.slice (some ⟨w.heap.size, 0, none⟩) 0 0) (w.alloc (.cells #[] 133)) := by kernel_rfl
theorem one_txt (cs : List Value) (x : ByteArray) (h : RTxt cs x) : ∀ u ∈ cs, u.oneCell' = true := by rintro u hu; rw [h] at hu; simp at hu; subst hu; rfl
theorem one_row (cs : List Value) (x : DRow) (h : RRow cs x) : ∀ u ∈ cs, u.oneCell' = true := by
  rintro u hu; rw [h] at hu
  simp only [DRow.cells, List.mem_cons, List.not_mem_nil, or_false] at hu
  rcases hu with rfl | rfl <;> rfl
theorem one_sigpre (x : DSig) : ∀ u ∈ x.pre, u.oneCell' = true := by
  intro u hu
  simp only [DSig.pre, List.mem_cons, List.not_mem_nil, or_false] at hu
  rcases hu with rfl | rfl | rfl | rfl | rfl | rfl | rfl | rfl | rfl | rfl | rfl | rfl | rfl | rfl | rfl | rfl | rfl | rfl <;> rfl
theorem one_msgpre (x : DMsg) : ∀ u ∈ x.pre, u.oneCell' = true := by
  intro u hu
  simp only [DMsg.pre, List.mem_cons, List.not_mem_nil, or_false] at hu
  rcases hu with rfl | rfl | rfl | rfl | rfl | rfl | rfl <;> rfl
theorem one_tabpre (x : DTab) : ∀ u ∈ x.pre, u.oneCell' = true := by
  intro u hu
  simp only [DTab.pre, List.mem_cons, List.not_mem_nil, or_false] at hu
  rcases hu with rfl | rfl | rfl | rfl | rfl <;> rfl
theorem one_stapre (x : DSta) : ∀ u ∈ x.pre, u.oneCell' = true := by
  intro u hu
  simp only [DSta.pre, List.mem_cons, List.not_mem_nil, or_false] at hu
  rcases hu with rfl | rfl <;> rfl
theorem one_sl {α : Type} {m : Mem} {sz : Nat} {R : List Value → α → Prop} {v : Value} {l : List α} (h : Sl m sz R v l) : v.oneCell' = true := by
  obtain ⟨p, c, rfl, _⟩ := h.form; rfl
theorem one_sig {m : Mem} (cs : List Value) (x : DSig) (h : RSig m cs x) : ∀ u ∈ cs, u.oneCell' = true := by
  obtain ⟨v, rfl, hv⟩ := h.h
  intro u hu
  rcases List.mem_append.1 hu with hu | hu
  · exact one_sigpre x u hu
  · simp at hu; subst hu; exact one_sl hv
theorem cloneTexts {m : Mem} {v : Value} {xs : List ByteArray} {w : World} (hm : Sub m w) (hv : Texts m v xs) (hn : xs.length ≤ 1073741824) : Does Tryd.prog 49 [v] w (Cloned 9 1 RTxt xs w) := by
  refine D49 ?_
  unfold S49
  exact r_clone sl26 lit0s hv hm hn one_txt (by decide) fun _ _ h => h
theorem cloneSigs {m : Mem} {v : Value} {xs : List DSig} {w : World} (hm : Sub m w) (hv : Sigs m v xs) (hn : xs.length ≤ 1073741824) : Does Tryd.prog 50 [v] w (Cloned 130 19 (RSig m) xs w) := by
  refine D50 ?_
  unfold S50
  exact r_clone sl75 lit0g hv hm hn one_sig (by decide) fun _ _ h => h
theorem cloneRows {m : Mem} {v : Value} {xs : List DRow} {w : World} (hm : Sub m w) (hv : Rows m v xs) (hn : xs.length ≤ 1073741824) : Does Tryd.prog 51 [v] w (Cloned 133 2 RRow xs w) := by
  refine D51 ?_
  unfold S51
  exact r_clone sl79 lit0r hv hm hn one_row (by decide) fun _ _ h => h
theorem Cloned.texts {xs : List ByteArray} {w w' : World} {v : Value} (h : Cloned 9 1 RTxt xs w v w') : Own w' 9 1 v xs.length (strs xs) := by
  obtain ⟨ps, rfl, hq, ho⟩ := h.own
  have : ps.flatMap (·.1) = strs (ps.map (·.2)) := by
    clear ho h
    induction ps with
    | nil => rfl
    | cons q ps ih =>
      have := (hq q (by simp)).2
      rw [List.flatMap_cons, ih (fun q hh => hq q (by simp [hh])), this]; rfl
  rw [← this]; exact ho
def rowCells (xs : List DRow) : List Value := xs.flatMap DRow.cells
theorem Cloned.rows {xs : List DRow} {w w' : World} {v : Value} (h : Cloned 133 2 RRow xs w v w') : Own w' 133 2 v xs.length (rowCells xs) := by
  obtain ⟨ps, rfl, hq, ho⟩ := h.own
  have : ps.flatMap (·.1) = rowCells (ps.map (·.2)) := by
    clear ho h
    induction ps with
    | nil => rfl
    | cons q ps ih =>
      have := (hq q (by simp)).2
      rw [List.flatMap_cons, ih (fun q hh => hq q (by simp [hh])), this]; rfl
  rw [← this]; exact ho
/-- Stations, copied. -/
theorem stations {m : Mem} {v : Value} {x : DSta} {w : World} (hm : Sub m w) (hv : Texts m v x.names) (hn : x.names.length ≤ 1073741824) :
    Does Tryd.prog 19 [x.agg v] w fun r w' => ∃ v', r = x.agg v' ∧ Cloned 9 1 RTxt x.names w v' w' := by
  refine D19 ?_
  unfold S19
  exact r_field0 agg28 zero28 rfl size28 fld28_1 one26 size26 pl49 rfl rfl (one_stapre x)
    (fun w1 e => cloneTexts (hm.ext e) hv hn) fun v' w' h => ⟨v', rfl, h⟩
theorem table {m : Mem} {v : Value} {x : DTab} {w : World} (hm : Sub m w) (hv : Rows m v x.rows) (hn : x.rows.length ≤ 1073741824) :
    Does Tryd.prog 21 [x.agg v] w fun r w' => ∃ v', r = x.agg v' ∧ Cloned 133 2 RRow x.rows w v' w' := by
  refine D21 ?_
  unfold S21
  exact r_field0 agg81 zero81 rfl size81 fld81_4 one79 size79 pl51 rfl rfl (one_tabpre x)
    (fun w1 e => cloneRows (hm.ext e) hv hn) fun v' w' h => ⟨v', rfl, h⟩

/-- A list of signals in memory: each with its list To. -/
def sigEl (q : DSig × Value) : List Value := q.1.pre ++ [q.2]
def sigCells (xs : List DSig) (tvs : List Value) : List Value := (xs.zip tvs).flatMap sigEl
theorem sigEl_len (q : DSig × Value) : (sigEl q).length = 19 := rfl
theorem Cloned.sigs {m : Mem} {xs : List DSig} {w w' : World} {v : Value} (h : Cloned 130 19 (RSig m) xs w v w') :
    ∃ tvs : List Value, tvs.length = xs.length ∧ Own w' 130 19 v xs.length (sigCells xs tvs) ∧ ∀ (j : Nat) (x : DSig) tv, xs[j]? = some x → tvs[j]? = some tv → Texts m tv x.to := by
  obtain ⟨ps, rfl, hq, ho⟩ := h.own
  have : ∃ tvs : List Value, tvs.length = (ps.map (·.2)).length ∧ ps.flatMap (·.1) = sigCells (ps.map (·.2)) tvs ∧ ∀ (j : Nat) (x : DSig) tv, (ps.map (·.2))[j]? = some x → tvs[j]? = some tv → Texts m tv x.to := by
    clear ho h
    induction ps with
    | nil => exact ⟨[], rfl, rfl, by simp⟩
    | cons q ps ih =>
      obtain ⟨tvs, h1, h2, h3⟩ := ih (fun q hh => hq q (by simp [hh]))
      obtain ⟨v, hv, ht⟩ := (hq q (by simp)).2.h
      refine ⟨v :: tvs, by simpa using h1, ?_, ?_⟩
      · rw [List.flatMap_cons, h2, hv]; rfl
      · intro j x tv hx htv
        cases j with
        | zero => simp at hx htv; subst hx; subst htv; exact ht
        | succ j => exact h3 j x tv (by simpa using hx) (by simpa using htv)
  obtain ⟨tvs, h1, h2, h3⟩ := this
  exact ⟨tvs, h1, h2 ▸ ho, h3⟩
/-- A message of its own: its signals from the row lo on, behind them each signal's list. -/
structure OMsg (w : World) (lo hi : Nat) (x : DMsg) (v : Value) (tvs : List Value) : Prop where
  len : tvs.length = x.sigs.length
  own : Own w 130 19 v x.sigs.length (sigCells x.sigs tvs)
  texts : ∀ (j : Nat) (s : DSig) tv, x.sigs[j]? = some s → tvs[j]? = some tv → Own w 9 1 tv s.to.length (strs s.to)
  inc : Inc lo (v :: tvs) hi
theorem OMsg.ext {w w' : World} {lo hi : Nat} {x : DMsg} {v : Value} {tvs : List Value} (h : OMsg w lo hi x v tvs) (e : Ext w w') : OMsg w' lo hi x v tvs :=
  ⟨h.len, h.own.ext e, fun j s tv h1 h2 => (h.texts j s tv h1 h2).ext e, h.inc⟩
theorem zip_get {α β : Type} {xs : List α} {ys : List β} {j : Nat} {x : α} {y : β} (h1 : xs[j]? = some x) (h2 : ys[j]? = some y) : (xs.zip ys)[j]? = some (x, y) := by
  rw [List.getElem?_zip_eq_some]; exact ⟨h1, h2⟩
theorem zip_set {α β : Type} (xs : List α) (ys : List β) (k : Nat) (x : α) (y : β) (h1 : xs[k]? = some x) : (xs.zip ys).set k (x, y) = xs.zip (ys.set k y) := by
  apply List.ext_getElem?
  intro j
  by_cases hj : k = j
  · subst hj
    rw [List.getElem?_set, if_pos rfl]
    by_cases hk : k < ys.length
    · have h3 : (ys.set k y)[k]? = some y := by rw [List.getElem?_set, if_pos rfl, if_pos hk]
      rw [zip_get h1 h3, if_pos]
      have := (List.getElem?_eq_some_iff.1 h1).1
      simp only [List.length_zip]; omega
    · rw [if_neg (by simp only [List.length_zip]; omega)]
      exact (List.getElem?_eq_none (by simp only [List.length_zip, List.length_set]; omega)).symm
  · rw [List.getElem?_set_ne hj]
    cases hx : xs[j]? with
    | none =>
      rw [List.getElem?_eq_none (by have := List.getElem?_eq_none_iff.1 hx; simp only [List.length_zip]; omega), List.getElem?_eq_none (by have := List.getElem?_eq_none_iff.1 hx; simp only [List.length_zip]; omega)]
    | some a =>
      cases hy : ys[j]? with
      | none =>
        rw [List.getElem?_eq_none (by have := List.getElem?_eq_none_iff.1 hy; simp only [List.length_zip]; omega), List.getElem?_eq_none (by have := List.getElem?_eq_none_iff.1 hy; simp only [List.length_zip, List.length_set]; omega)]
      | some b => rw [zip_get hx hy, zip_get hx (by rw [List.getElem?_set_ne hj]; exact hy)]
theorem take_set_succ {α : Type} (l : List α) (k : Nat) (x : α) (h : k < l.length) : (l.set k x).take (k + 1) = l.take k ++ [x] := by
  rw [List.set_eq_take_append_cons_drop, if_pos h, List.take_append]
  simp [Nat.min_eq_left (Nat.le_of_lt h), List.take_take]
theorem one_txts {m : Mem} {v : Value} {xs : List ByteArray} (h : Texts m v xs) : v.cells.toList = [v] := by
  obtain ⟨p, c, rfl, _⟩ := h.form; rfl
/-- A message, copied with its signals and their lists. -/
theorem message {m : Mem} {v : Value} {x : DMsg} {w : World} (hm : Sub m w) (hv : Sigs m v x.sigs) (hx : OkMsg x) :
    Does Tryd.prog 20 [x.agg v] w fun r w' => ∃ v' tvs, r = x.agg v' ∧ Ext w w' ∧ OMsg w' w.heap.size w'.heap.size x v' tvs := by
  have hcap := hx.sigs
  refine D20 ?_
  unfold S20
  refine r_box fun w1 e1 z1 b1 => ?_
  refine r_alloc zero77 fun w2 e2 z2 b2 => ?_
  have b1 : Blk w2 w.heap.size (x.pre ++ [v]) 77 := by have := b1.ext e2; simpa [Value.cells] using this
  rw [Pure.run (p_field fld77_6), ld1 b1 one75 (o := 0 + 7) (v := v) rfl]
  refine GoN.does pl50 (cloneSigs (hm.ext (e1.trans e2)) hv hcap) ?_
  intro v' w3 hc
  obtain ⟨tvs, hlen, hown, htx⟩ := Cloned.sigs hc
  obtain ⟨ho1, ho2⟩ := hown.one
  rw [Pure.run (p_field fld77_6)]
  refine r_store size75 (by rw [ho2]) rfl (by simpa using ho1) (b1.ext hc.ext) (show 0 + 7 + 1 ≤ 8 by decide) fun w4 c4 b4 => ?_
  have hs4 : splice (x.pre ++ [v]) (0 + 7) [v'] = x.pre ++ [v'] := rfl
  rw [hs4] at b4
  have hlow := hc.low
  have x4 : Ext w w4 := ((e1.trans e2).trans hc.ext).chg c4 (by omega)
  have hown4 := hown.chg c4 (fun h => by have := hlow _ h; omega)
  rw [Pure.run (p_field fld77_6), ld1 b4 one75 (o := 0 + 7) (v := v') rfl]
  obtain ⟨p, c, rfl, hpc⟩ := hown.len
  simp only [Pure.run (p_len sl75.slice), JoinP.eq]
  have z4 : w4.heap.size = w3.heap.size := c4.size
  have s23 := hc.ext.size
  have hvlt : ∀ g, (Value.slice p x.sigs.length c).ownBlock = some g → w.heap.size ≤ g ∧ g < w4.heap.size := fun g hg => by
    have := hlow g hg; have := hown4.lt hg; omega
  refine LoopP.of1 (fun i w' => ∃ (k : Nat) (tvs : List Value), k ≤ x.sigs.length ∧ i = .int .i64 k ∧ tvs.length = x.sigs.length ∧ Own w' 130 19 (.slice p x.sigs.length c) x.sigs.length (sigCells x.sigs tvs)
      ∧ (∀ (j : Nat) (s : DSig) tv, j < k → x.sigs[j]? = some s → tvs[j]? = some tv → Own w' 9 1 tv s.to.length (strs s.to))
      ∧ (∀ (j : Nat) (s : DSig) tv, k ≤ j → x.sigs[j]? = some s → tvs[j]? = some tv → Texts m tv s.to)
      ∧ Inc w4.heap.size (tvs.take k) w'.heap.size ∧ Blk w' w.heap.size (x.pre ++ [.slice p x.sigs.length c]) 77 ∧ (∃ z, z.length = 8 ∧ Blk w' w1.heap.size z 77) ∧ Ext w w')
    (fun i _ => x.sigs.length - (intOf i).toNat)
    ⟨0, tvs, Nat.zero_le _, rfl, hlen, hown4, fun j s tv h => absurd h (Nat.not_lt_zero _), fun j s tv _ => htx j s tv, Nat.le_refl _, b4, ⟨_, rfl, (b2.ext hc.ext).chg c4 (by omega)⟩, x4⟩ ?_
  clear htx b4 hown4 hown b1 b2 c4
  rintro i w5 ⟨k, tvs, hk, rfl, hlen, hown, hdone, htodo, hinc, b0, ⟨z, hz, b1⟩, hext⟩
  simp only [lss_r]
  refine CondP.dec (fun h => ?_) (fun h => ?_)
  · have hk' : k < x.sigs.length := by omega
    obtain ⟨s, hs⟩ : ∃ s, x.sigs[k]? = some s := ⟨x.sigs[k], by simp [hk']⟩
    obtain ⟨tv, htv⟩ : ∃ tv, tvs[k]? = some tv := ⟨tvs[k], by simp [hlen, hk']⟩
    obtain ⟨g, c', hgv, hnc, hat⟩ := hown.at (by omega)
    injection hgv with hp1 hp2 hp3
    subst hp1; subst hp3
    have hT := htodo k s tv (Nat.le_refl _) hs htv
    have hzp : (x.sigs.zip tvs)[k]? = some (s, tv) := zip_get hs htv
    try simp only [JoinP.eq]
    intro w6 e6
    have b0' := b0.ext e6
    have hx0 : (x.pre ++ [Value.slice (some ⟨g, 0, none⟩) x.sigs.length c])[7]? = some (.slice (some ⟨g, 0, none⟩) x.sigs.length c) := rfl
    have hcell : w6.cell? ⟨g, 0 + (k : Int).toNat * 19 + 18, none⟩ = some tv := by
      refine cell_ext ?_ e6
      have := hat (k * 19 + 18) tv (flat_get sigEl 19 _ k 18 _ tv (fun q _ => sigEl_len q) hzp rfl)
      rw [show 0 + (k : Int).toNat * 19 + 18 = 0 + (k * 19 + 18) by simp]; exact this
    simp only [Pure.runQ (p_field (o := 0) fld77_6), ld1Q b0' one75 (o := 0 + 7) hx0]
    rw [Pure.runQ (p_idx (e := 130) (sz := 19) sl75.slice size130 (by omega) (by omega)), Pure.runQ (p_field fld130_13)]
    refine q_load1 one26 hcell ?_
    have hto := hx.to s (List.mem_of_getElem? hs)
    refine GoN.does pl49 (cloneTexts ((hm.ext hext).ext e6) hT hto) ?_
    intro tv' w7 hc7
    refine ⟨hc7.ext, ?_⟩
    have hot := Cloned.texts hc7
    obtain ⟨ht1, ht2⟩ := hot.one
    rw [Pure.runQ (p_idx (e := 130) (sz := 19) sl75.slice size130 (by omega) (by omega)), Pure.runQ (p_field fld130_13)]
    have hown7 := (hown.ext e6).ext hc7.ext
    have hglt := hvlt g rfl
    have hglow := hlow g rfl
    have hzs : (sigCells x.sigs tvs).length = x.sigs.length * 19 := hown.1
    have s67 := hc7.ext.size
    have s56 := e6.size
    have s45 := hinc.le
    refine r_storeOwn size26 (by rw [ht2]) rfl (by simpa using ht1) hown7 (by rw [hzs]; simp; omega) fun w8 c8 hown8 => ?_
    have hspl : splice (sigCells x.sigs tvs) (0 + (k : Int).toNat * 19 + 18) [tv'] = sigCells x.sigs (tvs.set k tv') := by
      rw [show 0 + (k : Int).toNat * 19 + 18 = k * 19 + 18 by simp]
      unfold sigCells
      rw [splice_flat1 sigEl 19 _ k 18 (s, tv') (s, tv) tv' (fun q _ => sigEl_len q) hzp (by omega) rfl, zip_set _ _ _ _ _ hs]
    rw [hspl] at hown8
    simp only [add_r]
    have hlow7 := hc7.low
    have z8 : w8.heap.size = w7.heap.size := c8.size
    have e57 : Ext w5 w7 := e6.trans hc7.ext
    refine ⟨⟨k + 1, tvs.set k tv', by omega, succ64 (by omega), by simpa using hlen, hown8, ?_, ?_, ?_, (b0.ext e57).chg c8 (by omega), ⟨z, hz, (b1.ext e57).chg c8 (by omega)⟩, (hext.trans e57).chg c8 (by omega)⟩, ?_⟩
    · intro j s' t' hj hs' ht'
      by_cases hjk : j = k
      · subst hjk
        rw [List.getElem?_set, if_pos rfl, if_pos (by omega)] at ht'
        injection ht' with ht'
        subst ht'
        rw [hs] at hs'; injection hs' with hs'; subst hs'
        exact hot.chg c8 (fun h => by have := hlow7 _ h; omega)
      · rw [List.getElem?_set_ne (by omega)] at ht'
        have hd := hdone j s' t' (by omega) hs' ht'
        have hin := hinc.get (i := j) (v := t') (by rw [List.getElem?_take_of_lt (by omega)]; exact ht')
        exact ((hd.ext e6).ext hc7.ext).chg c8 (fun h => by have := hin _ h; omega)
    · intro j s' t' hj hs' ht'
      rw [List.getElem?_set_ne (by omega)] at ht'
      exact htodo j s' t' (by omega) hs' ht'
    · rw [take_set_succ _ _ _ (by omega)]
      exact hinc.append (Inc.one (by omega) fun g' hg' => by have := hlow7 g' hg'; have := hot.lt hg'; omega)
    · rw [succ64 (by omega)]; simp [intOf]; omega
  · obtain rfl : k = x.sigs.length := by omega
    have s45 := hinc.le
    rw [ldN b0 agg77 (o := 0) rfl]
    simp only [List.drop_zero]
    rw [show (x.pre ++ [Value.slice p x.sigs.length c]).take 8 = x.pre ++ [Value.slice p x.sigs.length c] from rfl]
    refine r_store size77 rfl rfl (fun u hu => by
      simp only [Value.cells, List.mem_append, List.mem_singleton] at hu
      rcases hu with hu | hu
      · exact one_msgpre x u hu
      · subst hu; exact ho1) b1 (by omega) fun w6 c6 b6 => ?_
    have hs6 : splice z 0 (Value.agg (x.pre ++ [Value.slice p x.sigs.length c]).toArray).cells.toList = x.pre ++ [Value.slice p x.sigs.length c] := by
      simp only [Value.cells, splice, List.take_zero, List.nil_append]
      rw [List.drop_eq_nil_of_le (by simp [hz, DMsg.pre])]; simp
    rw [hs6] at b6
    refine k_loadN agg77 (l := x.pre ++ [Value.slice p x.sigs.length c]) rfl (by have := b6.at; exact this) ?_
    have hne : (Value.slice p x.sigs.length c).ownBlock ≠ some w1.heap.size := fun h => by have := hlow _ h; omega
    have htk : tvs.take x.sigs.length = tvs := List.take_of_length_le (by omega)
    rw [htk] at hinc
    have z6 : w6.heap.size = w5.heap.size := c6.size
    refine ⟨_, tvs, rfl, hext.chg c6 (by omega), ⟨hlen, hown.chg c6 hne, fun j s tv h1 h2 => ?_, ⟨w4.heap.size, x4.size, hvlt, by rw [z6]; exact hinc⟩⟩⟩
    have hin := hinc.get (i := j) (v := tv) h2
    exact (hdone j s tv (List.getElem?_eq_some_iff.1 h1).1 h1 h2).chg c6 (fun h => by have := hin _ h; omega)
end Go.Proofs.YtmgleeoecdodjaaDoor.Sh
