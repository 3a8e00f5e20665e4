/- What parts of any database make, for arguments of the given bulk: the law's row and its card. Conditions: the bound of the statement; package errors' variable as laid, tied to the program's text. -/
import Derived.Test.YtmgleeoecdodjaaDoorTr
import Derived.Test.YtmgleeoecdodjaaDoorUr
import Derived.Test.YtmgleeoecdodjaaDoorCards
import Derived.Test.YtmgleeoecdodjaaDoorTie
import Derived.LaidHandle
import Derived.Deep.DeepHandedRow
import Derived.Lib.LaidTab
set_option linter.unusedVariables false
set_option linter.unusedSimpArgs false
set_option maxRecDepth 10000
namespace Go.Proofs.YtmgleeoecdodjaaDoor.lawGathers
open Go Go.V Go.RowKit Go.ChangeShapes Go.WideShapes Go.ChangeAt Go.Proofs.YtmgleeoecdodjaaDoor.Sh

theorem own : ownKnob Tryd.prog.godebug = none := by kernel_rfl
theorem et : Tryd.prog.globalNamed "errors.errorType" = some 0 := by kernel_rfl
theorem rt : (Tryd.prog.cutTypes.find? (·.1 == "internal/reflectlite.rtype")).map (·.2) = some 188 := by kernel_rfl
theorem oneRow : ((List.range Tryd.prog.types.size).filter fun t => Tryd.prog.rowNamed t [101, 114, 114, 111, 114]) = [42] := by kernel_rfl
/-- What the row's list gives a walk: the variable's one cell. -/
theorem handle {W : World} (h : laidMetH Tryd.prog Rows.nodeGathersUptoRow.laid W) : W.cell? ⟨0, 0, none⟩ = some (rty 42) := by
  have h' : laidMet Tryd.prog [] W ∧ handlesMet Tryd.prog Rows.nodeGathersUptoRow.laid W := h
  obtain ⟨name, u, ty, e1, e2, e3, e4, e5⟩ := h'.2 _ (List.mem_singleton.2 rfl)
  have en : name = [101, 114, 114, 111, 114] := (Option.some.inj e1).symm
  subst en
  obtain rfl := Option.some.inj (rt.symm.trans e2)
  have hm : ty ∈ (List.range Tryd.prog.types.size).filter fun t => Tryd.prog.rowNamed t [101, 114, 114, 111, 114] := List.mem_filter.2 ⟨List.mem_range.2 e3, e4⟩
  rw [oneRow] at hm
  obtain rfl := List.mem_singleton.1 hm
  have hh : typeHandle Tryd.prog 42 = .pointer (some ⟨1, 42, none⟩) := by kernel_rfl
  rw [hh] at e5
  simpa [rty, hnd] using World.var?_cell et e5 0
theorem rdInts {H : Type} {enc : TypeId × Value → H} {W : World} {base : Nat} {spare : Nat → Bool} {held : Bool} {fuel : Nat} {v : Value} {x : DataW H × List MemPlace} (h : DataW.trod enc Tryd.prog W base spare held fuel 33 [v] = some x) : ∃ l : List Int, Ints (memW W) v l ∧ l.length ≤ Rows.uptoBulk x.1 := by
  obtain ⟨q, h1, h2, h3⟩ := rdSlice (R := RInt) (Q := fun _ _ => True) sl33.slice rcI (by decide) (fun n cs x hx => by
    obtain ⟨s, h1, _⟩ := DataW.trod_int Tryd.underlying3 hx
    exact ⟨s, h1, trivial⟩) (d := x.1) (ps := x.2) h
  refine ⟨_, h1, ?_⟩
  have := sum_len (l := q.map (·.2)) (fun a ha => by obtain ⟨p, hp, rfl⟩ := List.mem_map.1 ha; exact (h2 p hp).2)
  simp only [List.length_map] at this ⊢
  omega
def wit0 : Value := .agg #[.bool false, .int .i64 0, .int .i64 0, .string ⟨#[]⟩, .int .i64 0, .int .i64 0, .slice none 0 0, .slice none 0 0, .slice none 0 0]
def wit0d {H : Type} : DataW H := .agg [.lit (.bool false), .agg [.agg [.lit (.int .i64 0), .lit (.int .i64 0)], .lit (.string [])], .agg [.agg [.lit (.int .i64 0), .lit (.int .i64 0)], .nil], .nil, .nil]
theorem laidOut : laidOutB Tryd.prog = true := by kernel_rfl
theorem rdDbRec : Tryd.prog.readableRec 32 = true := by kernel_rfl
theorem rdIntsRec : Tryd.prog.readableRec 33 = true := by kernel_rfl
theorem ltDb : 32 < Tryd.prog.types.size := of_decide_eq_true (by kernel_rfl)
theorem ltInts : 33 < Tryd.prog.types.size := of_decide_eq_true (by kernel_rfl)
theorem contract (H : Type) (enc : TypeId × Value → H) (W : World) (base : Nat) (args : Array Value) (ds gs : List (DataW H)) (before : List MemPlace)
    (hval : ∀ (j : Nat) t v, Tryd.f3.params[j]? = some t → args[j]? = some v → Value.okWide Tryd.prog W .any base t v)
    (hW : DataW.Whole enc Tryd.prog Tryd.f3.params.toList Rows.nodeGathersSpec.vars false W args.toList ds gs before) (hL : laidMetH Tryd.prog Rows.nodeGathersUptoRow.laid W) (hk : Rows.uptoSmall H (ds ++ gs) = true) :
    Calls Tryd.prog 3 args W fun e W' => ∃ v, e = .returned v ∧ Rows.nodeGathersSpec.post enc Tryd.prog Tryd.f3 false true false false W args v W' := by
  have hW' := hW
  obtain ⟨p, q, hA0, hV, rfl, hfz, hnd⟩ := hW
  have hA : DataW.TrodAll enc Tryd.prog W 0 (fun _ => true) true Tryd.f3.params.toList args.toList ds p := hA0
  rw [Tryd.params3] at hA hval
  obtain ⟨v0, vs0, d0, ds0, p0, q0, hargs, rfl, rfl, h0, r0⟩ := trodAll_cons hA
  obtain ⟨v1, vs1, d1, ds1, p1, q1, hargs1, rfl, rfl, h1, r1⟩ := trodAll_cons r0
  obtain ⟨rfl, rfl, rfl⟩ := trodAll_nil r1
  subst hargs1
  obtain rfl : args = #[v0, v1] := by cases args; simp_all
  obtain ⟨rfl, rfl⟩ := trodVars_none hV
  simp only [List.append_nil] at hW' hk
  have hbulk : Rows.uptoBulk d0 + Rows.uptoBulk d1 ≤ 1048576 := by
    have h := hk
    simp only [Rows.uptoSmall, Rows.uptoBulkAll, Nat.add_zero] at h
    exact of_decide_eq_true h
  obtain ⟨fuel, h0'⟩ := id h0
  obtain ⟨fuel1, h1'⟩ := id h1
  have hdb := (rdDb h0').2 (by show Rows.uptoBulk d0 ≤ 1048576; omega)
  obtain ⟨x, hd, hx, ht⟩ := hdb
  have hv0 : v0 = .agg v0.cells.toList.toArray := by
    obtain ⟨cs, rfl, _⟩ := okWide_struct ruDb (hval 0 32 v0 rfl rfl)
    simp [Value.cells]
  rw [← hv0] at hd
  have hv1 : v1.cells.toList = [v1] := by
    have := hval 1 33 v1 rfl rfl
    obtain ⟨p, n, c, rfl⟩ := okWide_slice sl33.slice this
    rfl
  rw [hv1] at h1'
  obtain ⟨ps, hps, hpl⟩ := rdInts h1'
  have hpl : ps.length ≤ Rows.uptoBulk d1 := hpl
  have hdoes := nodeGathers (ps := ps) (Sub.self W) hd hx ht hps (by omega) (handle hL)
  unfold Does at hdoes
  refine hdoes.mono ?_
  rintro e W' ⟨v, rfl, rfl, hext⟩
  refine ⟨_, rfl, ?_⟩
  have hlt := hW'.lt
  refine ⟨_, _, _, [], p0 ++ (p1 ++ []), [], hW', ?_, ?_, ?_, ?_, fun h => by cases h⟩
  · exact trodAll_mk1 (shut_bool Tryd.underlying4 _)
  · refine trodAll_cons_mk ?_ (trodAll_cons_mk ?_ trodAll_mk0)
    · exact Below.trod laidOut rdDbRec ltDb h0 hext fun y hy => hlt y (by simp [hy])
    · exact Below.trod laidOut rdIntsRec ltInts h1 hext fun y hy => hlt y (by simp [hy])
  · rfl
  · exact Below.frame hext _
noncomputable def laidWorld (os : Os) : World :=
  { World.holding Tryd.prog os ⟨#[], #[], []⟩ with heap := (World.holding Tryd.prog os ⟨#[], #[], []⟩).heap.modify 0 fun
      | .cells _ t frozen => .cells #[rty 42] t frozen
      | o => o }
theorem laid_met (os : Os) (args : Array Value) : laidMetH Tryd.prog Rows.nodeGathersUptoRow.laid ((laidWorld os).forCall (fun _ _ => 0) ⟨#[], args, []⟩).memory :=
  laidMetH_of_parts (laidMet_nil _ _) (by kernel_rfl)
theorem reads (os : Os) {H : Type} (enc : TypeId × Value → H) : ∃ places, DataW.whole enc Tryd.prog ((laidWorld os).forCall (fun _ _ => 0) ⟨#[], #[wit0, .slice none 0 0], []⟩).memory Tryd.f3.params.toList Rows.nodeGathersSpec.vars false #[wit0, Value.slice none 0 0].toList 8 = some ([wit0d, .nil], [], places) :=
  ⟨[], by kernel_rfl⟩
set_option maxRecDepth 100000 in
theorem lifted (os : Os) (started : os.Started) (H : Type) (enc : TypeId × Value → H) (F : Stop.Interp) :
    ReturnsInHanded {} Tryd.checked os 3 .any ((Rows.OpenSpec.upto Rows.nodeGathersSpec).preRow enc Tryd.prog Tryd.f3 Rows.nodeGathersUptoRow.domain false Rows.nodeGathersUptoRow.laid) (((Rows.OpenSpec.upto Rows.nodeGathersSpec).at F).post enc Tryd.prog Tryd.f3 false true false false) := by
  obtain ⟨places, hx⟩ := reads os enc
  refine returnsInHanded_of_row (C := Tryd.checked) (s := Rows.OpenSpec.upto Rows.nodeGathersSpec) own started (by kernel_rfl) Tryd.func3
    (witness_row_at (enc := enc) (C := Tryd.checked) false (laidWorld os) #[wit0, .slice none 0 0] rfl (by kernel_rfl) (by kernel_rfl) (by kernel_rfl)
      (OpenSpec.preRow_of_cond 8 hx (by kernel_rfl) (fun k hk => by cases hk; kernel_rfl) (by kernel_rfl) (laid_met os _))) ?_
  intro W base args ds gs before hval hW _ hcond _ hL _ _
  exact contract H enc W base args ds gs before hval hW hL (hcond _ rfl)
theorem over : Rows.NodeGathersUptoSaid :=
  OpenClaim.holds_of_cond 3 Tryd.f3 rfl rfl rfl rfl rfl rfl rfl ⟨rfl, rfl, rfl, rfl, rfl⟩ rfl rfl rfl rfl rfl (by kernel_rfl) Tryd.func3 (by kernel_rfl)
    (of_decide_eq_true (by kernel_rfl)) (by unfold Func.isWrapper; first | (rw [if_pos (by decide +kernel)]; kernel_rfl) | (rw [if_neg (by decide +kernel)]; exact ⟨rfl, rfl⟩))
    (fun os started H enc _ F => by rw [OpenClaim.pre_eq_preRow]; exact lifted os started H enc F)
theorem plain (f : FuncId) (fn : Func) (hf : Tryd.pinned.checked.prog.funcNamed "busbar/busbarlaw05.NodeGathers" = some f) (hfn : Tryd.pinned.checked.prog.funcs[f]? = some fn) :
    true = Tryd.pinned.checked.prog.looks [] ∧ ∀ (j : Nat) t, fn.params[j]? = some t → Tryd.pinned.checked.prog.wantsStandIn t = false := by
  obtain rfl : f = 3 := Option.some.inj ((show Tryd.prog.funcNamed "busbar/busbarlaw05.NodeGathers" = some 3 by kernel_rfl).symm.trans hf) |>.symm
  obtain rfl : fn = Tryd.f3 := (Option.some.inj (Tryd.func3.symm.trans hfn)).symm
  refine ⟨by kernel_rfl, fun j t ht => ?_⟩
  rw [Tryd.params3] at ht
  have := Array.mem_of_getElem? ht
  simp only [List.mem_toArray, List.mem_cons, List.not_mem_nil, or_false] at this
  rcases this with rfl | rfl
  · exact (show Tryd.prog.wantsStandIn 32 = false by kernel_rfl)
  · exact (show Tryd.prog.wantsStandIn 33 = false by kernel_rfl)
theorem proved : Rows.NodeGathersUptoCardSaid :=
  Claim7.holds_tied_plain_at .later [] _ _ _ _ over (fun _ h => by cases h) (by kernel_rfl) (fun _ h => by cases h) nodeGathersUpto_row_tie rfl ⟨rfl, rfl⟩ (by kernel_rfl) rfl plain (by kernel_rfl)
end Go.Proofs.YtmgleeoecdodjaaDoor.lawGathers
