/- The law on the parts of a database, for arguments of the given bulk. Conditions: the bound of the statement. -/
import Derived.Test.YtmgleeoecdodjaaTr
import Derived.Test.YtmgleeoecdodjaaTy
set_option linter.unusedVariables false
set_option linter.unusedSimpArgs false
set_option maxRecDepth 10000
namespace Go.Proofs.Ytmgleeoecdodjaa.lawLists
open Go Go.V Go.RowKit Go.ChangeShapes Go.WideShapes Go.ChangeAt Go.Proofs.Ytmgleeoecdodjaa.Sh

theorem own : ownKnob Try.prog.godebug = none := by kernel_rfl
def wit0 : Value := .agg #[.bool false, .int .i64 0, .int .i64 0, .string ⟨#[]⟩, .int .i64 0, .int .i64 0, .slice none 0 0, .slice none 0 0, .slice none 0 0]
def wit0d {H : Type} : DataW H := .agg [.lit (.bool false), .agg [.agg [.lit (.int .i64 0), .lit (.int .i64 0)], .lit (.string [])], .agg [.agg [.lit (.int .i64 0), .lit (.int .i64 0)], .nil], .nil, .nil]
theorem laidOut : laidOutB Try.prog = true := by kernel_rfl
theorem rdDbRec : Try.prog.readableRec 32 = true := by kernel_rfl
theorem rdStrRec : Try.prog.readableRec 9 = true := by kernel_rfl
theorem ltDb : 32 < Try.prog.types.size := of_decide_eq_true (by kernel_rfl)
theorem ltStr : 9 < Try.prog.types.size := of_decide_eq_true (by kernel_rfl)
theorem contract (H : Type) (enc : TypeId × Value → H) (W : World) (base : Nat) (args : Array Value) (ds gs : List (DataW H)) (before : List MemPlace)
    (hval : ∀ (j : Nat) t v, Try.f3.params[j]? = some t → args[j]? = some v → Value.okWide Try.prog W .any base t v)
    (hW : DataW.Whole enc Try.prog Try.f3.params.toList Rows.nodeListsSpec.vars false W args.toList ds gs before) (hk : Rows.uptoSmall H (ds ++ gs) = true) :
    Calls Try.prog 3 args W fun e W' => ∃ v, e = .returned v ∧ Rows.nodeListsSpec.post enc Try.prog Try.f3 false true false false W args v W' := by
  have hW' := hW
  obtain ⟨p, q, hA0, hV, rfl, hfz, hnd⟩ := hW
  have hA : DataW.TrodAll enc Try.prog W 0 (fun _ => true) true Try.f3.params.toList args.toList ds p := hA0
  rw [Try.params3] at hA hval
  obtain ⟨v0, vs0, d0, ds0, p0, q0, hargs, rfl, rfl, h0, r0⟩ := trodAll_cons hA
  obtain ⟨rfl, rfl, rfl⟩ := trodAll_nil r0
  obtain rfl : args = #[v0] := by cases args; simp_all
  obtain ⟨rfl, rfl⟩ := trodVars_none hV
  simp only [List.append_nil] at hW' hk
  have hbulk : Rows.uptoBulk d0 ≤ 1048576 := by
    have h := hk
    simp only [Rows.uptoSmall, Rows.uptoBulkAll, Nat.add_zero] at h
    exact of_decide_eq_true h
  obtain ⟨fuel, h0'⟩ := id h0
  have hdb := (rdDb h0').2 (by show Rows.uptoBulk d0 ≤ 1048576; omega)
  obtain ⟨x, hd, hx, ht⟩ := hdb
  have hv0 : v0 = .agg v0.cells.toList.toArray := by
    obtain ⟨cs, rfl, _⟩ := okWide_struct ruDb (hval 0 32 v0 rfl rfl)
    simp [Value.cells]
  rw [← hv0] at hd
  have hdoes := nodeLists (Sub.self W) hd hx ht
  unfold Does at hdoes
  refine hdoes.mono ?_
  rintro e W' ⟨v, rfl, rfl, hext⟩
  refine ⟨_, rfl, ?_⟩
  have hlt := hW'.lt
  refine ⟨_, _, _, [], p0, [], hW', ?_, ?_, ?_, ?_, fun h => by cases h⟩
  · exact trodAll_mk1 (shut_bool Try.underlying4 _)
  · exact trodAll_mk1 (Below.trod laidOut rdDbRec ltDb h0 hext fun y hy => hlt y (by first | exact hy | simpa using hy))
  · rfl
  · exact Below.frame hext _
set_option maxRecDepth 100000 in
theorem lifted (os : Os) (started : os.Started) (H : Type) (enc : TypeId × Value → H) (F : Stop.Interp) :
    ReturnsInHanded {} Try.checked os 3 .any ((Rows.OpenSpec.upto Rows.nodeListsSpec).pre6 enc Try.prog Try.f3 Rows.nodeListsUptoRow.domain false) (((Rows.OpenSpec.upto Rows.nodeListsSpec).at F).post enc Try.prog Try.f3 false true false false) := by
  refine returnsInHanded_of_cond (C := Try.checked) (s := Rows.OpenSpec.upto Rows.nodeListsSpec) (k := Rows.uptoSmall) rfl own started (by kernel_rfl) Try.func3
    (OpenSpec.witness (enc := enc) (C := Try.checked) (s := Rows.OpenSpec.upto Rows.nodeListsSpec) (k := Rows.uptoSmall) rfl false ⟨#[], #[wit0], []⟩ 8 (by kernel_rfl) (by kernel_rfl) (by kernel_rfl)
      (x := ([wit0d], [], [])) (by kernel_rfl) rfl (by kernel_rfl)) ?_
  intro W base args ds gs before hval hW _ hk _
  exact contract H enc W base args ds gs before hval hW hk

theorem over : Rows.nodeListsUptoRow.holds Try.pinned (Rows.OpenSpec.upto Rows.nodeListsSpec) :=
  OpenClaim.holds_of_cond 3 Try.f3 rfl rfl rfl rfl rfl rfl rfl ⟨rfl, rfl, rfl, rfl, rfl⟩ rfl rfl rfl rfl rfl (by kernel_rfl) Try.func3 (by kernel_rfl)
    (of_decide_eq_true (by kernel_rfl)) (by unfold Func.isWrapper; first | (rw [if_pos (by decide +kernel)]; kernel_rfl) | (rw [if_neg (by decide +kernel)]; exact ⟨rfl, rfl⟩))
    (fun os started H enc _ F => lifted os started H enc F)

theorem proved : Rows.NodeListsUptoSaid :=
  over
end Go.Proofs.Ytmgleeoecdodjaa.lawLists
