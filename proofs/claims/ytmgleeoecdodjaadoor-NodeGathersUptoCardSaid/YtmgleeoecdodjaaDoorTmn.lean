/- That no lists are found apart, of each type. Conditions: none. -/
import Derived.Test.YtmgleeoecdodjaaDoorTl
set_option linter.unusedVariables false
set_option linter.unusedSimpArgs false
set_option maxRecDepth 10000
namespace Go.Proofs.YtmgleeoecdodjaaDoor.Sh
open Go Go.V Go.RowKit
theorem nilBytes (w : World) : Does Tryd.prog 31 [.slice none 0 0] w (Yes w) := by
  refine D31 ?_
  unfold S31
  simp only [JoinP.eq]
  refine LoopP.of1 (fun i w' => i = .int .i64 0 ∧ Ext w w') (fun _ _ => 0) ⟨rfl, Ext.refl _⟩ ?_
  rintro _ w1 ⟨rfl, x1⟩
  simp only [Pure.run (p_len sl51.slice), lss_r]
  refine CondP.dec (fun h => absurd h (by decide)) (fun h => ?_)
  refine LoopP.of2 (fun _ i w' => i = .int .i64 0 ∧ Ext w w') (fun _ _ _ => 0) ⟨rfl, x1⟩ ?_
  rintro _ _ w2 ⟨rfl, x2⟩
  simp only [Pure.run (p_len sl51.slice), lss_r]
  refine CondP.dec (fun h => absurd h (by decide)) (fun h => ?_)
  refine LoopP.of2 (fun _ i w' => i = .int .i64 0 ∧ Ext w w') (fun _ _ _ => 0) ⟨rfl, x2⟩ ?_
  rintro _ _ w3 ⟨rfl, x3⟩
  simp only [Pure.run (p_len sl51.slice), lss_r]
  refine CondP.dec (fun h => absurd h (by decide)) (fun h => ?_)
  exact ⟨rfl, x3⟩
theorem nilInts (w : World) : Does Tryd.prog 33 [.slice none 0 0] w (Yes w) := by
  refine D33 ?_
  unfold S33
  simp only [JoinP.eq]
  refine LoopP.of1 (fun i w' => i = .int .i64 0 ∧ Ext w w') (fun _ _ => 0) ⟨rfl, Ext.refl _⟩ ?_
  rintro _ w1 ⟨rfl, x1⟩
  simp only [Pure.run (p_len sl53.slice), lss_r]
  refine CondP.dec (fun h => absurd h (by decide)) (fun h => ?_)
  refine LoopP.of2 (fun _ i w' => i = .int .i64 0 ∧ Ext w w') (fun _ _ _ => 0) ⟨rfl, x1⟩ ?_
  rintro _ _ w2 ⟨rfl, x2⟩
  simp only [Pure.run (p_len sl53.slice), lss_r]
  refine CondP.dec (fun h => absurd h (by decide)) (fun h => ?_)
  refine LoopP.of2 (fun _ i w' => i = .int .i64 0 ∧ Ext w w') (fun _ _ _ => 0) ⟨rfl, x2⟩ ?_
  rintro _ _ w3 ⟨rfl, x3⟩
  simp only [Pure.run (p_len sl53.slice), lss_r]
  refine CondP.dec (fun h => absurd h (by decide)) (fun h => ?_)
  exact ⟨rfl, x3⟩
theorem nilNumbers (w : World) : Does Tryd.prog 34 [.slice none 0 0] w (Yes w) := by
  refine D34 ?_
  unfold S34
  simp only [JoinP.eq]
  refine LoopP.of1 (fun i w' => i = .int .i64 0 ∧ Ext w w') (fun _ _ => 0) ⟨rfl, Ext.refl _⟩ ?_
  rintro _ w1 ⟨rfl, x1⟩
  simp only [Pure.run (p_len sl54.slice), lss_r]
  refine CondP.dec (fun h => absurd h (by decide)) (fun h => ?_)
  refine LoopP.of2 (fun _ i w' => i = .int .i64 0 ∧ Ext w w') (fun _ _ _ => 0) ⟨rfl, x1⟩ ?_
  rintro _ _ w2 ⟨rfl, x2⟩
  simp only [Pure.run (p_len sl54.slice), lss_r]
  refine CondP.dec (fun h => absurd h (by decide)) (fun h => ?_)
  refine LoopP.of2 (fun _ i w' => i = .int .i64 0 ∧ Ext w w') (fun _ _ _ => 0) ⟨rfl, x2⟩ ?_
  rintro _ _ w3 ⟨rfl, x3⟩
  simp only [Pure.run (p_len sl54.slice), lss_r]
  refine CondP.dec (fun h => absurd h (by decide)) (fun h => ?_)
  exact ⟨rfl, x3⟩
theorem nilTokens (w : World) : Does Tryd.prog 35 [.slice none 0 0] w (Yes w) := by
  refine D35 ?_
  unfold S35
  simp only [JoinP.eq]
  refine LoopP.of1 (fun i w' => i = .int .i64 0 ∧ Ext w w') (fun _ _ => 0) ⟨rfl, Ext.refl _⟩ ?_
  rintro _ w1 ⟨rfl, x1⟩
  simp only [Pure.run (p_len sl55.slice), lss_r]
  refine CondP.dec (fun h => absurd h (by decide)) (fun h => ?_)
  refine LoopP.of2 (fun _ i w' => i = .int .i64 0 ∧ Ext w w') (fun _ _ _ => 0) ⟨rfl, x1⟩ ?_
  rintro _ _ w2 ⟨rfl, x2⟩
  simp only [Pure.run (p_len sl55.slice), lss_r]
  refine CondP.dec (fun h => absurd h (by decide)) (fun h => ?_)
  refine LoopP.of2 (fun _ i w' => i = .int .i64 0 ∧ Ext w w') (fun _ _ _ => 0) ⟨rfl, x2⟩ ?_
  rintro _ _ w3 ⟨rfl, x3⟩
  simp only [Pure.run (p_len sl55.slice), lss_r]
  refine CondP.dec (fun h => absurd h (by decide)) (fun h => ?_)
  exact ⟨rfl, x3⟩
theorem nilInstrs (w : World) : Does Tryd.prog 37 [.slice none 0 0] w (Yes w) := by
  refine D37 ?_
  unfold S37
  simp only [JoinP.eq]
  refine LoopP.of1 (fun i w' => i = .int .i64 0 ∧ Ext w w') (fun _ _ => 0) ⟨rfl, Ext.refl _⟩ ?_
  rintro _ w1 ⟨rfl, x1⟩
  simp only [Pure.run (p_len sl57.slice), lss_r]
  refine CondP.dec (fun h => absurd h (by decide)) (fun h => ?_)
  refine LoopP.of2 (fun _ i w' => i = .int .i64 0 ∧ Ext w w') (fun _ _ _ => 0) ⟨rfl, x1⟩ ?_
  rintro _ _ w2 ⟨rfl, x2⟩
  simp only [Pure.run (p_len sl57.slice), lss_r]
  refine CondP.dec (fun h => absurd h (by decide)) (fun h => ?_)
  refine LoopP.of2 (fun _ i w' => i = .int .i64 0 ∧ Ext w w') (fun _ _ _ => 0) ⟨rfl, x2⟩ ?_
  rintro _ _ w3 ⟨rfl, x3⟩
  simp only [Pure.run (p_len sl57.slice), lss_r]
  refine CondP.dec (fun h => absurd h (by decide)) (fun h => ?_)
  exact ⟨rfl, x3⟩
theorem nilRules (w : World) : Does Tryd.prog 38 [.slice none 0 0] w (Yes w) := by
  refine D38 ?_
  unfold S38
  simp only [JoinP.eq]
  refine LoopP.of1 (fun i w' => i = .int .i64 0 ∧ Ext w w') (fun _ _ => 0) ⟨rfl, Ext.refl _⟩ ?_
  rintro _ w1 ⟨rfl, x1⟩
  simp only [Pure.run (p_len sl58.slice), lss_r]
  refine CondP.dec (fun h => absurd h (by decide)) (fun h => ?_)
  refine LoopP.of2 (fun _ i w' => i = .int .i64 0 ∧ Ext w w') (fun _ _ _ => 0) ⟨rfl, x1⟩ ?_
  rintro _ _ w2 ⟨rfl, x2⟩
  simp only [Pure.run (p_len sl58.slice), lss_r]
  refine CondP.dec (fun h => absurd h (by decide)) (fun h => ?_)
  refine LoopP.of2 (fun _ i w' => i = .int .i64 0 ∧ Ext w w') (fun _ _ _ => 0) ⟨rfl, x2⟩ ?_
  rintro _ _ w3 ⟨rfl, x3⟩
  simp only [Pure.run (p_len sl58.slice), lss_r]
  refine CondP.dec (fun h => absurd h (by decide)) (fun h => ?_)
  exact ⟨rfl, x3⟩
theorem nilValues (w : World) : Does Tryd.prog 39 [.slice none 0 0] w (Yes w) := by
  refine D39 ?_
  unfold S39
  simp only [JoinP.eq]
  refine LoopP.of1 (fun i w' => i = .int .i64 0 ∧ Ext w w') (fun _ _ => 0) ⟨rfl, Ext.refl _⟩ ?_
  rintro _ w1 ⟨rfl, x1⟩
  simp only [Pure.run (p_len sl59.slice), lss_r]
  refine CondP.dec (fun h => absurd h (by decide)) (fun h => ?_)
  refine LoopP.of2 (fun _ i w' => i = .int .i64 0 ∧ Ext w w') (fun _ _ _ => 0) ⟨rfl, x1⟩ ?_
  rintro _ _ w2 ⟨rfl, x2⟩
  simp only [Pure.run (p_len sl59.slice), lss_r]
  refine CondP.dec (fun h => absurd h (by decide)) (fun h => ?_)
  refine LoopP.of2 (fun _ i w' => i = .int .i64 0 ∧ Ext w w') (fun _ _ _ => 0) ⟨rfl, x2⟩ ?_
  rintro _ _ w3 ⟨rfl, x3⟩
  simp only [Pure.run (p_len sl59.slice), lss_r]
  refine CondP.dec (fun h => absurd h (by decide)) (fun h => ?_)
  exact ⟨rfl, x3⟩
theorem nilBools (w : World) : Does Tryd.prog 40 [.slice none 0 0] w (Yes w) := by
  refine D40 ?_
  unfold S40
  simp only [JoinP.eq]
  refine LoopP.of2 (fun g i w' => g = .slice none 0 0 ∧ i = .int .i64 0 ∧ Ext w w') (fun _ _ _ => 0) ⟨rfl, rfl, Ext.refl _⟩ ?_
  rintro _ _ w1 ⟨rfl, rfl, x1⟩
  simp only [Pure.run (p_len sl60.slice), lss_r]
  refine CondP.dec (fun h => absurd h (by decide)) (fun h => ?_)
  refine LoopP.of2 (fun _ i w' => i = .int .i64 0 ∧ Ext w w') (fun _ _ _ => 0) ⟨rfl, x1⟩ ?_
  rintro _ _ w2 ⟨rfl, x2⟩
  simp only [Pure.run (p_len sl60.slice), lss_r]
  refine CondP.dec (fun h => absurd h (by decide)) (fun h => ?_)
  exact ⟨rfl, x2⟩
theorem nilMessages (w : World) : Does Tryd.prog 42 [.slice none 0 0] w (Yes w) := by
  refine D42 ?_
  unfold S42
  simp only [JoinP.eq]
  refine LoopP.of1 (fun i w' => i = .int .i64 0 ∧ Ext w w') (fun _ _ => 0) ⟨rfl, Ext.refl _⟩ ?_
  rintro _ w1 ⟨rfl, x1⟩
  simp only [Pure.run (p_len sl62.slice), lss_r]
  refine CondP.dec (fun h => absurd h (by decide)) (fun h => ?_)
  refine LoopP.of2 (fun _ i w' => i = .int .i64 0 ∧ Ext w w') (fun _ _ _ => 0) ⟨rfl, x1⟩ ?_
  rintro _ _ w2 ⟨rfl, x2⟩
  simp only [Pure.run (p_len sl62.slice), lss_r]
  refine CondP.dec (fun h => absurd h (by decide)) (fun h => ?_)
  refine LoopP.of2 (fun _ i w' => i = .int .i64 0 ∧ Ext w w') (fun _ _ _ => 0) ⟨rfl, x2⟩ ?_
  rintro _ _ w3 ⟨rfl, x3⟩
  simp only [Pure.run (p_len sl62.slice), lss_r]
  refine CondP.dec (fun h => absurd h (by decide)) (fun h => ?_)
  exact ⟨rfl, x3⟩
theorem nilTables (w : World) : Does Tryd.prog 43 [.slice none 0 0] w (Yes w) := by
  refine D43 ?_
  unfold S43
  simp only [JoinP.eq]
  refine LoopP.of1 (fun i w' => i = .int .i64 0 ∧ Ext w w') (fun _ _ => 0) ⟨rfl, Ext.refl _⟩ ?_
  rintro _ w1 ⟨rfl, x1⟩
  simp only [Pure.run (p_len sl63.slice), lss_r]
  refine CondP.dec (fun h => absurd h (by decide)) (fun h => ?_)
  refine LoopP.of2 (fun _ i w' => i = .int .i64 0 ∧ Ext w w') (fun _ _ _ => 0) ⟨rfl, x1⟩ ?_
  rintro _ _ w2 ⟨rfl, x2⟩
  simp only [Pure.run (p_len sl63.slice), lss_r]
  refine CondP.dec (fun h => absurd h (by decide)) (fun h => ?_)
  refine LoopP.of2 (fun _ i w' => i = .int .i64 0 ∧ Ext w w') (fun _ _ _ => 0) ⟨rfl, x2⟩ ?_
  rintro _ _ w3 ⟨rfl, x3⟩
  simp only [Pure.run (p_len sl63.slice), lss_r]
  refine CondP.dec (fun h => absurd h (by decide)) (fun h => ?_)
  exact ⟨rfl, x3⟩
theorem nilFrames (w : World) : Does Tryd.prog 44 [.slice none 0 0] w (Yes w) := by
  refine D44 ?_
  unfold S44
  simp only [JoinP.eq]
  refine LoopP.of1 (fun i w' => i = .int .i64 0 ∧ Ext w w') (fun _ _ => 0) ⟨rfl, Ext.refl _⟩ ?_
  rintro _ w1 ⟨rfl, x1⟩
  simp only [Pure.run (p_len sl64.slice), lss_r]
  refine CondP.dec (fun h => absurd h (by decide)) (fun h => ?_)
  refine LoopP.of2 (fun _ i w' => i = .int .i64 0 ∧ Ext w w') (fun _ _ _ => 0) ⟨rfl, x1⟩ ?_
  rintro _ _ w2 ⟨rfl, x2⟩
  simp only [Pure.run (p_len sl64.slice), lss_r]
  refine CondP.dec (fun h => absurd h (by decide)) (fun h => ?_)
  refine LoopP.of2 (fun _ i w' => i = .int .i64 0 ∧ Ext w w') (fun _ _ _ => 0) ⟨rfl, x2⟩ ?_
  rintro _ _ w3 ⟨rfl, x3⟩
  simp only [Pure.run (p_len sl64.slice), lss_r]
  refine CondP.dec (fun h => absurd h (by decide)) (fun h => ?_)
  exact ⟨rfl, x3⟩
theorem nilLines (w : World) : Does Tryd.prog 45 [.slice none 0 0] w (Yes w) := by
  refine D45 ?_
  unfold S45
  simp only [JoinP.eq]
  refine LoopP.of1 (fun i w' => i = .int .i64 0 ∧ Ext w w') (fun _ _ => 0) ⟨rfl, Ext.refl _⟩ ?_
  rintro _ w1 ⟨rfl, x1⟩
  simp only [Pure.run (p_len sl65.slice), lss_r]
  refine CondP.dec (fun h => absurd h (by decide)) (fun h => ?_)
  refine LoopP.of2 (fun _ i w' => i = .int .i64 0 ∧ Ext w w') (fun _ _ _ => 0) ⟨rfl, x1⟩ ?_
  rintro _ _ w2 ⟨rfl, x2⟩
  simp only [Pure.run (p_len sl65.slice), lss_r]
  refine CondP.dec (fun h => absurd h (by decide)) (fun h => ?_)
  refine LoopP.of2 (fun _ i w' => i = .int .i64 0 ∧ Ext w w') (fun _ _ _ => 0) ⟨rfl, x2⟩ ?_
  rintro _ _ w3 ⟨rfl, x3⟩
  simp only [Pure.run (p_len sl65.slice), lss_r]
  refine CondP.dec (fun h => absurd h (by decide)) (fun h => ?_)
  exact ⟨rfl, x3⟩

end Go.Proofs.YtmgleeoecdodjaaDoor.Sh
