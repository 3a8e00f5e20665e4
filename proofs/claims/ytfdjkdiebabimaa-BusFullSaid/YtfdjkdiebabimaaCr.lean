/- The law that a full row refuses. Conditions: none. -/
import Derived.Test.YtfdjkdiebabimaaCn
import Derived.Test.YtfdjkdiebabimaaCq
set_option linter.unusedVariables false
set_option linter.unusedSimpArgs false
set_option maxRecDepth 10000
namespace Go.Proofs.Ytfdjkdiebabimaa.lawFull
open Go Go.V Go.RowKit Go.ChangeShapes Go.WideShapes Go.ChangeAt Go.Proofs.Ytfdjkdiebabimaa.Sh

theorem own : ownKnob Try.prog.godebug = none := by kernel_rfl
theorem laidOut : laidOutB Try.prog = true := by kernel_rfl
theorem rdFr : Try.prog.readableRec 35 = true := by kernel_rfl
theorem ltFr : 35 < Try.prog.types.size := of_decide_eq_true (by kernel_rfl)
theorem contract (H : Type) (enc : TypeId × Value → H) (W : World) (base : Nat) (args : Array Value) (ds gs : List (DataW H)) (before : List MemPlace)
    (hval : ∀ (j : Nat) t v, Try.f5.params[j]? = some t → args[j]? = some v → Value.okWide Try.prog W .any base t v)
    (hW : DataW.Whole enc Try.prog Try.f5.params.toList Rows.busFullSpec.vars false W args.toList ds gs before)
    (hsz : (DataW.weightsEach Try.prog (Try.f5.params.toList ++ Rows.busFullSpec.plain.varTypes Try.prog) (ds ++ gs)).all (· ≤ reachBytes) = true) :
    Calls Try.prog 5 args W fun e W' => ∃ v, e = .returned v ∧ Rows.busFullSpec.post enc Try.prog Try.f5 false true false false W args v W' := by
  have hW' := hW
  obtain ⟨p, q, hA0, hV, rfl, hfz, hnd⟩ := hW
  have hA : DataW.TrodAll enc Try.prog W 0 (fun _ => true) true Try.f5.params.toList args.toList ds p := hA0
  rw [Try.params5] at hA hval hsz
  obtain ⟨v0, vs0, d0, ds0, p0, q0, hargs, rfl, rfl, h0, r0⟩ := trodAll_cons hA
  obtain ⟨v1, vs1, d1, ds1, p1, q1, hargs1, rfl, rfl, h1, r1⟩ := trodAll_cons r0
  obtain ⟨rfl, rfl, rfl⟩ := trodAll_nil r1
  subst hargs1
  obtain rfl : args = #[v0, v1] := by cases args; simp_all
  obtain ⟨rfl, rfl⟩ := trodVars_none hV
  simp only [List.append_nil] at hW'
  obtain ⟨room, rfl, rfl, rfl, wr⟩ := open_int Try.underlying3 (hval 0 3 v0 rfl rfl) h0
  have fit : ∀ (j : Nat) (t : TypeId) (d : DataW H), [3, 35][j]? = some t → [DataW.lit (.int .i64 room), d1][j]? = some d → Fit t d := fun j t d ht hd n hn => by
    have := List.all_eq_true.1 hsz n (DataW.weights_mem_each (j := j) (t := t) (d := d) (by
      have hj := (List.getElem?_eq_some_iff.1 ht).1
      show ([3, 35] ++ _)[j]? = some t
      rw [List.getElem?_append_left hj]; exact ht) (by
      have hj := (List.getElem?_eq_some_iff.1 hd).1
      show ([DataW.lit (.int .i64 room), d1] ++ _)[j]? = some d
      rw [List.getElem?_append_left hj]; exact hd) n hn)
    simpa using this
  obtain ⟨f1, h1'⟩ := id h1
  obtain ⟨cs, rfl, _⟩ := okWide_struct ruFrm (hval 1 35 v1 rfl rfl)
  obtain ⟨a0, a1, a2, hcs⟩ := len3 (st_len ruFrm rcFrm h1')
  have hcs : cs = #[a0, a1, a2] := by
    have h : cs.toList = [a0, a1, a2] := hcs
    rw [← Array.toArray_toList (xs := cs), h]
  subst hcs
  obtain ⟨f, rfl, rfl, hb, hin⟩ := rdFrame (a0 := a0) (a1 := a1) (a2 := a2) h1' (fit 1 _ _ rfl rfl)
  have hdoes := busFull (room := room) (Sub.self W) hb hin
  unfold Does at hdoes
  refine hdoes.mono ?_
  rintro e W' ⟨v, rfl, hext, rfl⟩
  refine ⟨_, rfl, ?_⟩
  have hlt := hW'.lt
  refine ⟨_, _, _, [], [] ++ p1, [], hW', ?_, ?_, ?_, ?_, fun h => by cases h⟩
  · exact trodAll_mk1 (shut_bool Try.underlying4 _)
  · refine trodAll_mk2 ?_ ?_
    · exact shut_int Try.underlying3 wr
    · exact Below.trod laidOut rdFr ltFr h1 hext fun y hy => hlt y (by simp [hy])
  · rfl
  · exact Below.frame hext _
set_option maxRecDepth 100000 in
theorem lifted (os : Os) (started : os.Started) (H : Type) (enc : TypeId × Value → H) :
    ReturnsInHanded {} Try.checked os 5 .any (Rows.busFullSpec.pre6 enc Try.prog Try.f5 Rows.busFullRow.domain false) (Rows.busFullSpec.post enc Try.prog Try.f5 false true false false) := by
  refine returnsInHanded_of_change_sized (C := Try.checked) own started (by kernel_rfl) Try.func5
    (ChangeSpec.witness6 (enc := enc) (C := Try.checked) false ⟨#[], #[.int .i64 0, .agg #[.int .u32 0, .bool false, .slice none 0 0]], []⟩ 8 (by kernel_rfl) (by kernel_rfl) (by kernel_rfl) (by kernel_rfl)) ?_
  intro W base args ds gs before hval hW _ hsz _
  exact contract H enc W base args ds gs before hval hW hsz

theorem proved : Rows.BusFullSaid :=
  OpenClaim.holds_of_wide 5 Try.f5 rfl rfl rfl rfl rfl rfl rfl ⟨rfl, rfl, rfl, rfl, rfl⟩ rfl rfl rfl rfl rfl (by kernel_rfl) Try.func5 (by kernel_rfl)
    (of_decide_eq_true (by kernel_rfl)) (by unfold Func.isWrapper; first | (rw [if_pos (by decide +kernel)]; kernel_rfl) | (rw [if_neg (by decide +kernel)]; exact ⟨rfl, rfl⟩))
    (fun os started H enc _ => lifted os started H enc)
end Go.Proofs.Ytfdjkdiebabimaa.lawFull
