/- A database lent. Conditions: lengths up to 2^30. -/
import Derived.Test.YtmgleeoecdodjaaTv
set_option linter.unusedVariables false
set_option linter.unusedSimpArgs false
set_option maxRecDepth 10000
namespace Go.Proofs.Ytmgleeoecdodjaa.Sh
open Go Go.V Go.RowKit

theorem LSl.monoL {α : Type} {M M' : Mem} {sz : Nat} {R : Mem → List Value → α → Prop} {mk : Nat → List Value} {v : Value} {l : List α} (hm : MLe M M') (h : LSl M sz (R M) mk v l) (hR : ∀ cs x, R M cs x → R M' cs x) : LSl M' sz (R M') mk v l := (h.mono hm).imp hR
theorem Lent.cell {Φ : Value → Mem → Prop} {w w' : World} {v : Value} (h : Lent Φ w v w') : v.cells.toList = [v] := by rw [h.cells]
theorem lendDatabase {m : Mem} {d : Value} {x : DDb} {w : World} (hm : Sub m w) (hd : RDb m d x) (hx : OkDb x) :
    Does Try.prog 5 [d] w fun r w' => Made w (fun M => LDb M r x) w' := by
  obtain ⟨s, ms, ts, rfl, hs, hms, hts⟩ := hd.h
  have os := one_sl hs
  have om := one_sl hms
  have ot := one_sl hts
  have hone : ∀ (a b c : Value), a.oneCell' = true → b.oneCell' = true → c.oneCell' = true → ∀ u ∈ x.cells a b c, u.oneCell' = true := by
    intro a b c h1 h2 h3 u hu
    simp only [DDb.cells, List.mem_cons, List.not_mem_nil, or_false] at hu
    rcases hu with rfl | rfl | rfl | rfl | rfl | rfl | rfl | rfl | rfl <;> first | rfl | assumption
  refine D5 ?_
  unfold S5
  refine r_box fun w1 e1 z1 b1 => ?_
  have b1 : Blk w1 w.heap.size (x.cells s ms ts) 32 := b1
  refine r_alloc zero32 fun w2 e2 z2 b2 => ?_
  have b1 := b1.ext e2
  rw [ldN b1 agg32 (o := 0) rfl]
  refine r_alloc zero32 fun w3 e3 z3 b3 => ?_
  refine r_store size32 (l := x.cells s ms ts) rfl rfl (hone _ _ _ os om ot) b3 (by decide) fun w4 c4 b4 => ?_
  have b4 : Blk w4 w2.heap.size (x.cells s ms ts) 32 := b4
  have b1 := (b1.ext e3).chg c4 (by omega)
  have b2 := (b2.ext e3).chg c4 (by omega)
  have x4 : Ext w w4 := Ext.chg ((e1.trans e2).trans e3) c4 (by omega)
  have s4 := c4.size
  rw [Pure.run (p_field (o := 0) fld32_3), ld1 b1 one29 (o := 0 + 7) rfl]
  refine GoN.does pl17 (lendMessages (hm.ext x4) hms hx.msgs hx.msg) ?_
  intro ms' w5 h5
  obtain ⟨M1, hs1, hl1, hL1⟩ := h5.made.mem
  have e5 := h5.made.ext
  rw [Pure.run (p_field (o := 0) fld32_3)]
  refine r_store size29 (Lent.cell h5) rfl (by simpa using h5.one) (b4.ext e5) (show 0 + 7 + 1 ≤ 9 by decide) fun w6 c6 b6 => ?_
  have b6 : Blk w6 w2.heap.size (x.cells s ms' ts) 32 := b6
  have b1 := (b1.ext e5).chg c6 (by omega)
  have b2 := (b2.ext e5).chg c6 (by omega)
  have x6 : Ext w w6 := (x4.trans e5).chg c6 (by omega)
  have s5 := e5.size
  have s6 := c6.size
  have hs1 : Sub M1 w6 := hs1.chg c6 (.of_low hl1 (by omega))
  rw [Pure.run (p_field (o := 0) fld32_4), ld1 b1 one30 (o := 0 + 8) rfl]
  refine GoN.does pl18 (lendTables (hm.ext x6) hts hx.tabs hx.tab) ?_
  intro ts' w7 h7
  obtain ⟨M2, hs2, hl2, hL2⟩ := h7.made.mem
  have e7 := h7.made.ext
  rw [Pure.run (p_field (o := 0) fld32_4)]
  refine r_store size30 (Lent.cell h7) rfl (by simpa using h7.one) (b6.ext e7) (show 0 + 8 + 1 ≤ 9 by decide) fun w8 c8 b8 => ?_
  have b8 : Blk w8 w2.heap.size (x.cells s ms' ts') 32 := b8
  have b1 := (b1.ext e7).chg c8 (by omega)
  have b2 := (b2.ext e7).chg c8 (by omega)
  have x8 : Ext w w8 := (x6.trans e7).chg c8 (by omega)
  have s7 := e7.size
  have s8 := c8.size
  have hs1 : Sub M1 w8 := (hs1.ext e7).chg c8 (.of_low hl1 (by omega))
  have hs2 : Sub M2 w8 := hs2.chg c8 (.of_low hl2 (by omega))
  rw [Pure.run (p_field (o := 0) fld32_2), ldN b1 agg28 (o := 0 + 4) rfl]
  refine GoN.does pl19 (lendStations (x := x.sta) (hm.ext x8) hs hx.names) ?_
  intro r w9 h9
  obtain ⟨s', rfl, os', e9, M3, hs3, hl3, hL3⟩ := h9.h
  rw [Pure.run (p_field (o := 0) fld32_2)]
  refine r_store size28 (l := x.sta.pre ++ [s']) rfl rfl (one_snoc (one_stapre x.sta) os') (b8.ext e9) (show 0 + 4 + 3 ≤ 9 by decide) fun w10 c10 b10 => ?_
  have b10 : Blk w10 w2.heap.size (x.cells s' ms' ts') 32 := b10
  have b2 := (b2.ext e9).chg c10 (by omega)
  have x10 : Ext w w10 := (x8.trans e9).chg c10 (by omega)
  have s9 := e9.size
  have s10 := c10.size
  have hs1 : Sub M1 w10 := (hs1.ext e9).chg c10 (.of_low hl1 (by omega))
  have hs2 : Sub M2 w10 := (hs2.ext e9).chg c10 (.of_low hl2 (by omega))
  have hs3 : Sub M3 w10 := hs3.chg c10 (.of_low hl3 (by omega))
  rw [ldN b10 agg32 (o := 0) rfl]
  refine r_store size32 (l := x.cells s' ms' ts') rfl rfl (hone _ _ _ os' h5.one h7.one) b2 (by decide) fun w11 c11 b11 => ?_
  have b11 : Blk w11 w1.heap.size (x.cells s' ms' ts') 32 := b11
  have hs1 : Sub M1 w11 := hs1.chg c11 (.of_low hl1 (by omega))
  have hs2 : Sub M2 w11 := hs2.chg c11 (.of_low hl2 (by omega))
  have hs3 : Sub M3 w11 := hs3.chg c11 (.of_low hl3 (by omega))
  refine k_loadN agg32 (l := x.cells s' ms' ts') rfl b11.at ?_
  have i1 : MLe M1 ((M1.and M2).and M3) := fun b o v h => and_left _ _ b o v (and_left _ _ b o v h)
  have i2 : MLe M2 ((M1.and M2).and M3) := fun b o v h => and_left _ _ b o v (and_right hs1 hs2 b o v h)
  have i3 : MLe M3 ((M1.and M2).and M3) := and_right (hs1.and hs2) hs3
  refine ⟨x10.chg c11 (by omega), (M1.and M2).and M3, (hs1.and hs2).and hs3, ((hl1.mono (by omega)).and (hl2.mono (by omega))).and (hl3.mono (by omega)), s', ms', ts', rfl, hL3.mono i3, LSl.monoL (R := LMsg) i1 hL1 fun _ _ h => LMsg.mono i1 h, LSl.monoL (R := LTab) i2 hL2 fun _ _ h => LTab.mono i2 h⟩
end Go.Proofs.Ytmgleeoecdodjaa.Sh
