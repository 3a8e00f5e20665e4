/- The parts told from a database: that told says true of them. Conditions: lengths up to 2^30. -/
import Derived.Test.YtmgleeoecdodjaaDoorTe
set_option linter.unusedVariables false
set_option linter.unusedSimpArgs false
set_option maxRecDepth 10000
namespace Go.V
open Go.RowKit
variable {P : Program}
theorem ldc {w : World} {b o : Nat} {t : TypeId} {v : Value} (ht : oneB P t = true) (h : w.cell? ⟨b, o, none⟩ = some v) {K : Value → World → Prop} : Run P (Instr.loadAt t (.pointer (some ⟨b, o, none⟩))) w K = K v w := Run.eq (run_load1 ht h)
theorem ldcQ {w : World} {b o : Nat} {t : TypeId} {v : Value} (ht : oneB P t = true) (h : w.cell? ⟨b, o, none⟩ = some v) {K : Value → Prop} : RunQ P (Instr.loadAt t (.pointer (some ⟨b, o, none⟩))) w K = K v := by
  refine propext ⟨?_, fun k => q_load1 ht h k⟩
  rintro ⟨u, h', k⟩
  have := (h' w (Ext.refl _)).symm.trans (run_load1 ht h)
  injection this with h1 h2
  subst h1
  exact k
theorem r_as {t xT n : TypeId} {nv z : Value} {b : Bool} {zl : List Value} {w : World} {K : Value → Value → World → Prop} (hp : Pure P (Instr.typeAssert nv xT t true) (.tuple #[z, .bool b])) (hz : zeroOf P t = some zl) (hsz : sizeB P t n = true) (hzl : zl.length = n)
    (hlen : z.cells.toList.length = n) (h1 : ∀ u ∈ z.cells.toList, u.oneCell' = true)
    (k : ∀ w', Ext w w' → Blk w' w.heap.size z.cells.toList t → K (.bool b) (.pointer (some ⟨w.heap.size, 0, none⟩)) w') :
    Run P (Instr.typeAssert nv xT t true) w fun t35 w1 => Run P (Instr.extract t35 0) w1 fun t36 w2 => Run P (Instr.extract t35 1) w2 fun t37 w3 => Run P (Instr.alloc t true (.tuple #[])) w3 fun v_9 w4 => RunU P (Instr.storeAt t v_9 t36) w4 fun w5 => K t37 v_9 w5 := by
  rw [Pure.run hp, Pure.run p_ext_0, Pure.run p_ext_1]
  refine r_alloc hz fun w1 e1 z1 b1 => ?_
  refine r_store hsz rfl hlen h1 b1 (by omega) fun w2 c2 b2 => ?_
  have hs : splice zl 0 z.cells.toList = z.cells.toList := by
    simp only [splice, List.take_zero, List.nil_append]
    rw [List.drop_eq_nil_of_le (by omega)]; simp
  rw [hs] at b2
  exact k w2 (e1.chg c2 (Nat.le_refl _)) b2
end Go.V
namespace Go.Proofs.YtmgleeoecdodjaaDoor.Sh
open Go Go.V Go.RowKit

def PNode.one : PNode → Prop
  | .ver _ => True
  | .sta _ v => v.oneCell' = true
  | .msg _ v _ => v.oneCell' = true
  | .tab _ v => v.oneCell' = true
theorem ONode.one {w : World} {lo hi : Nat} {n : PNode} (h : ONode w lo hi n) : n.one := by
  cases n with
  | ver x => trivial
  | sta x v => exact (Own.one h.1).1
  | msg x v tvs => exact (Own.one (OMsg.own h)).1
  | tab x v => exact (Own.one h.1).1
theorem all_one {l : List Value} (h : l.all Value.oneCell' = true) : ∀ u ∈ l, u.oneCell' = true := List.all_eq_true.1 h
theorem one_snoc {l : List Value} {v : Value} (h : ∀ u ∈ l, u.oneCell' = true) (hv : v.oneCell' = true) : ∀ u ∈ l ++ [v], u.oneCell' = true := by
  intro u hu
  rcases List.mem_append.1 hu with hu | hu
  · exact h u hu
  · simp at hu; subst hu; exact hv
theorem as_ver {n : PNode} (h1 : n.one) : ∃ z, Pure Tryd.prog (Instr.typeAssert n.val 49 25 true) (.tuple #[z, .bool (decide (n.data.kind = 1))]) ∧ z.cells.toList.length = 3 ∧ (∀ u ∈ z.cells.toList, u.oneCell' = true) ∧ ∀ x, n = .ver x → z = x.agg := by
  cases n with
  | ver x => exact ⟨_, p_assert_yes unVer, rfl, all_one rfl, fun y h => by cases h; rfl⟩
  | sta x v => obtain ⟨z, hz, hp⟩ := p_assert_no (P := Tryd.prog) (xT := 49) (v := x.agg v) unVer (show (28 : Nat) ≠ 25 by decide) zero25; exact ⟨z, hp, by rw [hz]; rfl, by rw [hz]; exact all_one rfl, fun y h => by cases h⟩
  | msg x v tvs => obtain ⟨z, hz, hp⟩ := p_assert_no (P := Tryd.prog) (xT := 49) (v := x.agg v) unVer (show (77 : Nat) ≠ 25 by decide) zero25; exact ⟨z, hp, by rw [hz]; rfl, by rw [hz]; exact all_one rfl, fun y h => by cases h⟩
  | tab x v => obtain ⟨z, hz, hp⟩ := p_assert_no (P := Tryd.prog) (xT := 49) (v := x.agg v) unVer (show (81 : Nat) ≠ 25 by decide) zero25; exact ⟨z, hp, by rw [hz]; rfl, by rw [hz]; exact all_one rfl, fun y h => by cases h⟩
theorem as_sta {n : PNode} (h1 : n.one) : ∃ z, Pure Tryd.prog (Instr.typeAssert n.val 49 28 true) (.tuple #[z, .bool (decide (n.data.kind = 2))]) ∧ z.cells.toList.length = 3 ∧ (∀ u ∈ z.cells.toList, u.oneCell' = true) ∧ ∀ x v, n = .sta x v → z = x.agg v := by
  cases n with
  | sta x v => exact ⟨_, p_assert_yes unSta, rfl, one_snoc (one_stapre x) h1, fun y u h => by cases h; rfl⟩
  | ver x => obtain ⟨z, hz, hp⟩ := p_assert_no (P := Tryd.prog) (xT := 49) (v := x.agg) unSta (show (25 : Nat) ≠ 28 by decide) zero28; exact ⟨z, hp, by rw [hz]; rfl, by rw [hz]; exact all_one rfl, fun y u h => by cases h⟩
  | msg x v tvs => obtain ⟨z, hz, hp⟩ := p_assert_no (P := Tryd.prog) (xT := 49) (v := x.agg v) unSta (show (77 : Nat) ≠ 28 by decide) zero28; exact ⟨z, hp, by rw [hz]; rfl, by rw [hz]; exact all_one rfl, fun y u h => by cases h⟩
  | tab x v => obtain ⟨z, hz, hp⟩ := p_assert_no (P := Tryd.prog) (xT := 49) (v := x.agg v) unSta (show (81 : Nat) ≠ 28 by decide) zero28; exact ⟨z, hp, by rw [hz]; rfl, by rw [hz]; exact all_one rfl, fun y u h => by cases h⟩
theorem as_msg {n : PNode} (h1 : n.one) : ∃ z, Pure Tryd.prog (Instr.typeAssert n.val 49 77 true) (.tuple #[z, .bool (decide (n.data.kind = 3))]) ∧ z.cells.toList.length = 8 ∧ (∀ u ∈ z.cells.toList, u.oneCell' = true) ∧ ∀ x v tvs, n = .msg x v tvs → z = x.agg v := by
  cases n with
  | msg x v tvs => exact ⟨_, p_assert_yes unMsg, rfl, one_snoc (one_msgpre x) h1, fun y u t h => by cases h; rfl⟩
  | ver x => obtain ⟨z, hz, hp⟩ := p_assert_no (P := Tryd.prog) (xT := 49) (v := x.agg) unMsg (show (25 : Nat) ≠ 77 by decide) zero77; exact ⟨z, hp, by rw [hz]; rfl, by rw [hz]; exact all_one rfl, fun y u t h => by cases h⟩
  | sta x v => obtain ⟨z, hz, hp⟩ := p_assert_no (P := Tryd.prog) (xT := 49) (v := x.agg v) unMsg (show (28 : Nat) ≠ 77 by decide) zero77; exact ⟨z, hp, by rw [hz]; rfl, by rw [hz]; exact all_one rfl, fun y u t h => by cases h⟩
  | tab x v => obtain ⟨z, hz, hp⟩ := p_assert_no (P := Tryd.prog) (xT := 49) (v := x.agg v) unMsg (show (81 : Nat) ≠ 77 by decide) zero77; exact ⟨z, hp, by rw [hz]; rfl, by rw [hz]; exact all_one rfl, fun y u t h => by cases h⟩
theorem as_tab {n : PNode} (h1 : n.one) : ∃ z, Pure Tryd.prog (Instr.typeAssert n.val 49 81 true) (.tuple #[z, .bool (decide (n.data.kind = 4))]) ∧ z.cells.toList.length = 6 ∧ (∀ u ∈ z.cells.toList, u.oneCell' = true) ∧ ∀ x v, n = .tab x v → z = x.agg v := by
  cases n with
  | tab x v => exact ⟨_, p_assert_yes unTab, rfl, one_snoc (one_tabpre x) h1, fun y u h => by cases h; rfl⟩
  | ver x => obtain ⟨z, hz, hp⟩ := p_assert_no (P := Tryd.prog) (xT := 49) (v := x.agg) unTab (show (25 : Nat) ≠ 81 by decide) zero81; exact ⟨z, hp, by rw [hz]; rfl, by rw [hz]; exact all_one rfl, fun y u h => by cases h⟩
  | sta x v => obtain ⟨z, hz, hp⟩ := p_assert_no (P := Tryd.prog) (xT := 49) (v := x.agg v) unTab (show (28 : Nat) ≠ 81 by decide) zero81; exact ⟨z, hp, by rw [hz]; rfl, by rw [hz]; exact all_one rfl, fun y u h => by cases h⟩
  | msg x v tvs => obtain ⟨z, hz, hp⟩ := p_assert_no (P := Tryd.prog) (xT := 49) (v := x.agg v) unTab (show (77 : Nat) ≠ 81 by decide) zero81; exact ⟨z, hp, by rw [hz]; rfl, by rw [hz]; exact all_one rfl, fun y u h => by cases h⟩

theorem Own.texts {w : World} {v : Value} {xs : List ByteArray} (h : Own w 9 1 v xs.length (strs xs)) : Texts (memW w) v xs := by
  rw [strs_flat] at h
  exact h.sl (fun _ _ => rfl) (fun _ _ => rfl)
theorem Own.rows {w : World} {v : Value} {xs : List DRow} (h : Own w 133 2 v xs.length (rowCells xs)) : Rows (memW w) v xs := h.sl (fun _ _ => rfl) (fun _ _ => rfl)
theorem Sl.map {α β : Type} {m : Mem} {sz : Nat} {R : List Value → β → Prop} {g : α → β} {v : Value} {l : List α} (h : Sl m sz (fun cs p => R cs (g p)) v l) : Sl m sz R v (l.map g) := by
  obtain ⟨p, c, h1, h2, h3⟩ := h.h
  refine ⟨⟨p, c, by simpa using h1, by simpa using h2, fun i x hx => ?_⟩⟩
  rw [List.getElem?_map] at hx
  obtain ⟨y, hy, rfl⟩ := Option.map_eq_some_iff.1 hx
  exact h3 i y hy
theorem OMsg.sigs {w : World} {lo hi : Nat} {x : DMsg} {v : Value} {tvs : List Value} (h : OMsg w lo hi x v tvs) : Sigs (memW w) v x.sigs := by
  have hl : (x.sigs.zip tvs).length = x.sigs.length := by simp only [List.length_zip, h.len]; omega
  have ho := h.own
  unfold sigCells at ho
  rw [← hl] at ho
  have hs : Sl (memW w) 19 (fun cs q => RSig (memW w) cs q.1) v (x.sigs.zip tvs) := ho.sl (fun q _ => sigEl_len q) fun q hq => by
    obtain ⟨i, hi⟩ := List.getElem?_of_mem hq
    obtain ⟨h1, h2⟩ := List.getElem?_zip_eq_some.1 hi
    exact ⟨q.2, rfl, Own.texts (h.texts i q.1 q.2 h1 h2)⟩
  have := Sl.map (g := Prod.fst) hs
  rwa [List.map_fst_zip (by rw [h.len]; exact Nat.le_refl _)] at this
end Go.Proofs.YtmgleeoecdodjaaDoor.Sh
