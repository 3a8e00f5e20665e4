/- The calculus of XV1 is sound: what its formula grants, the code's own weakest condition grants. Conditions: none. -/
import Derived.Test.YtfdjkdiebabimaaV1
set_option linter.unusedVariables false
set_option linter.unusedSimpArgs false
namespace Go.V
open Go.RowKit

theorem Fr.length_put : ∀ (fr : Fr) (d : Nat) (v : Option Value), (fr.put d v).length = fr.length
  | [], _, _ => rfl
  | _ :: _, 0, _ => rfl
  | _ :: r, n + 1, v => by simp [Fr.put, Fr.length_put r n v]
theorem Fr.at_put_same : ∀ (fr : Fr) (d : Nat) (v : Option Value), d < fr.length → (fr.put d v).at d = v
  | [], _, _, h => by simp at h
  | _ :: _, 0, _, _ => rfl
  | _ :: r, n + 1, v, h => Fr.at_put_same r n v (by simpa using h)
theorem Fr.at_put_ne : ∀ (fr : Fr) (d i : Nat) (v : Option Value), i ≠ d → (fr.put d v).at i = fr.at i
  | [], _, _, _, _ => rfl
  | _ :: _, 0, 0, _, h => absurd rfl h
  | _ :: _, 0, _ + 1, _, _ => rfl
  | _ :: _, _ + 1, 0, _, _ => rfl
  | _ :: r, n + 1, i + 1, v, h => Fr.at_put_ne r n i v (by omega)
theorem Fr.at_ge : ∀ (fr : Fr) (i : Nat), fr.length ≤ i → fr.at i = none
  | [], _, _ => rfl
  | _ :: _, 0, h => by simp at h
  | _ :: r, n + 1, h => Fr.at_ge r n (by simpa using h)
theorem Fr.length_forget : ∀ (l : List Nat) (fr : Fr), (fr.forget l).length = fr.length
  | [], _ => rfl
  | j :: js, fr => by simp [Fr.forget, Fr.length_forget js, Fr.length_put]
theorem Fr.length_puts : ∀ (l : List Nat) (vs : List Value) (fr : Fr), (fr.puts l vs).length = fr.length
  | [], vs, fr => by cases vs <;> rfl
  | j :: js, [], fr => rfl
  | j :: js, v :: vs, fr => by simp [Fr.puts, Fr.length_puts js, Fr.length_put]
theorem Fr.at_forget : ∀ (l : List Nat) (fr : Fr) (i : Nat) (v : Value), (fr.forget l).at i = some v → i ∉ l ∧ fr.at i = some v
  | [], _, _, _, h => ⟨by simp, h⟩
  | j :: js, fr, i, v, h => by
    obtain ⟨h1, h2⟩ := Fr.at_forget js (fr.put j none) i v h
    by_cases e : i = j
    · subst e
      rcases Nat.lt_or_ge i fr.length with hl | hl
      · rw [Fr.at_put_same _ _ _ hl] at h2; cases h2
      · rw [Fr.at_ge _ _ (by rw [Fr.length_put]; exact hl)] at h2; cases h2
    · rw [Fr.at_put_ne _ _ _ _ e] at h2
      exact ⟨by simp [e, h1], h2⟩
theorem Fr.gets_length : ∀ (l : List Nat) (fr : Fr) (vs : List Value), fr.gets l = some vs → vs.length = l.length
  | [], _, vs, h => by simp [Fr.gets] at h; subst h; rfl
  | j :: js, fr, vs, h => by
    simp only [Fr.gets] at h
    split at h
    · rename_i v us h1 h2
      obtain rfl := Option.some.inj h
      simp [Fr.gets_length js fr us h2]
    · cases h
/-- A slot of a frame that was put together again. -/
theorem Fr.at_puts : ∀ (l : List Nat) (vs : List Value) (fr g : Fr) (i : Nat) (v : Value), g.gets l = some vs → (fr.puts l vs).at i = some v → fr.at i = some v ∧ i ∉ l ∨ g.at i = some v
  | [], vs, fr, g, i, v, hg, h => by
    simp [Fr.gets] at hg
    subst hg
    exact .inl ⟨h, by simp⟩
  | j :: js, vs, fr, g, i, v, hg, h => by
    simp only [Fr.gets] at hg
    split at hg
    · rename_i u us h1 h2
      obtain rfl := Option.some.inj hg
      rcases Fr.at_puts js us (fr.put j (some u)) g i v h2 h with ⟨h3, h4⟩ | h3
      · by_cases e : i = j
        · subst e
          rcases Nat.lt_or_ge i fr.length with hl | hl
          · rw [Fr.at_put_same _ _ _ hl] at h3
            exact .inr (h1.trans h3)
          · rw [Fr.at_ge _ _ (by rw [Fr.length_put]; exact hl)] at h3; cases h3
        · rw [Fr.at_put_ne _ _ _ _ e] at h3
          exact .inl ⟨h3, by simp [e, h4]⟩
      · exact .inr h3
    · cases hg

theorem Fits.putO {fr : Fr} {a : Act} (h : Fits fr a) (d : Option Tmp) (v : Value) : Fits (fr.putO d (some v)) (a.put d v) := by
  cases d with
  | none => exact h
  | some d =>
    refine ⟨by simp [Fr.putO, Fr.length_put, Act.put, h.size], fun i u hi => ?_, h.defers⟩
    simp only [Fr.putO] at hi
    by_cases e : i = d
    · subst e
      rcases Nat.lt_or_ge i fr.length with hl | hl
      · rw [Fr.at_put_same _ _ _ hl] at hi
        obtain rfl := Option.some.inj hi
        simp [Act.put, show i < a.tmps.size from h.size ▸ hl]
      · rw [Fr.at_ge _ _ (by rw [Fr.length_put]; exact hl)] at hi; cases hi
    · rw [Fr.at_put_ne _ _ _ _ e] at hi
      simp [Act.put, Array.getElem?_setIfInBounds_ne (Ne.symm e), h.val i u hi]
theorem Fits.rd {fr : Fr} {a : Act} (h : Fits fr a) {x : Operand} {v : Value} (hx : rd fr x = some v) : a.eval x = v := by
  cases x with
  | tmp t =>
    have e := h.val t v hx
    simp [Act.eval, e]
  | const u => exact Option.some.inj hx
  | global g => exact Option.some.inj hx
  | func f => exact Option.some.inj hx
theorem Fits.rds {fr : Fr} {a : Act} (h : Fits fr a) : ∀ (l : List Operand) (vs : List Value), V.rds fr l = some vs → l.map a.eval = vs
  | [], vs, hx => by simp [V.rds] at hx; subst hx; rfl
  | x :: l, vs, hx => by
    simp only [V.rds] at hx
    split at hx
    · rename_i v us h1 h2
      obtain rfl := Option.some.inj hx
      simp [h.rd h1, Fits.rds h l us h2]
    · cases hx
theorem Fits.rdsA {fr : Fr} {a : Act} (h : Fits fr a) {l : Array Operand} {vs : List Value} (hx : V.rds fr l.toList = some vs) : l.map a.eval = vs.toArray := by
  rw [← Fits.rds h _ _ hx]
  apply Array.toList_inj.1
  simp
theorem Fits.rdo {fr : Fr} {a : Act} (h : Fits fr a) {x : Option Operand} {v : Option Value} (hx : V.rdo fr x = some v) : x.map a.eval = v := by
  cases x with
  | none => exact Option.some.inj hx
  | some x =>
    simp only [V.rdo, Option.map_eq_some_iff] at hx
    obtain ⟨u, hu, rfl⟩ := hx
    simp [h.rd hu]
theorem Fits.rdp {fr : Fr} {a : Act} (h : Fits fr a) : ∀ (l : List (Nat × Operand)) (vs : List (Nat × Value)), V.rdp fr l = some vs → l.map (fun p => (p.1, a.eval p.2)) = vs
  | [], vs, hx => by simp [V.rdp] at hx; subst hx; rfl
  | (i, x) :: l, vs, hx => by
    simp only [V.rdp] at hx
    split at hx
    · rename_i v us h1 h2
      obtain rfl := Option.some.inj hx
      simp [h.rd h1, Fits.rdp h l us h2]
    · cases hx
theorem Fits.rdpA {fr : Fr} {a : Act} (h : Fits fr a) {l : Array (Nat × Operand)} {vs : List (Nat × Value)} (hx : V.rdp fr l.toList = some vs) :
    (l.map fun (i, x) => (i, a.eval x)) = vs.toArray := by
  rw [← Fits.rdp h _ _ hx]
  apply Array.toList_inj.1
  simp

theorem op2_some {α : Type} {fr : Fr} {x y : Operand} {f : Value → Value → α} {s : α} (h : op2 fr x y f = some s) : ∃ u v, rd fr x = some u ∧ rd fr y = some v ∧ s = f u v := by
  unfold op2 at h
  split at h
  · rename_i u v h1 h2
    exact ⟨u, v, h1, h2, (Option.some.inj h).symm⟩
  · cases h
theorem nilSem_run {P : Program} {v u : Value} {w w' : World} (h : (nilSem v).run P w = .ok u w') : u = v ∧ w' = w ∧
    v ≠ .pointer none ∧ v ≠ .nilIface ∧ v ≠ .nilFunc ∧ ∀ m f c, v ≠ .func (.method m) f c := by
  unfold nilSem at h
  split at h <;> simp_all [stuck, Sem.run, pure]

theorem run_value {P : Program} {s : Sem Value} {w w' : World} {v : Value} (h : s.run P w = .ok v w') : (do let x ← s; pure (.value x) : Sem Next).run P w = .ok (.value v) w' := by
  simp [Sem.run_bind, h, Result.andThen]
theorem run_skip {P : Program} {s : Sem Unit} {w w' : World} (h : s.run P w = .ok () w') : (do s; pure .skip : Sem Next).run P w = .ok .skip w' := by
  simp [Sem.run_bind, h, Result.andThen]

theorem semOf_run {P : Program} {fr : Fr} {a : Act} (hf : Fits fr a) {o : Oper} {s : Sem Value} (hs : semOf fr o.type o.op = some s) {w w' : World} {v : Value} (h : s.run P w = .ok v w') :
    (execOp a.eval o).run P w = .ok (.value v) w' := by
  obtain ⟨dst, op, ty, pos, after, guard⟩ := o
  simp only at hs
  cases op <;> simp only [semOf] at hs <;> (try (cases hs; done))
  case move x =>
    obtain ⟨u, hu, rfl⟩ := Option.map_eq_some_iff.1 hs
    simp only [execOp, hf.rd hu]
    simpa [pure, Sem.run] using h
  case assign x =>
    obtain ⟨u, hu, rfl⟩ := Option.map_eq_some_iff.1 hs
    simp only [execOp, hf.rd hu]
    simpa [pure, Sem.run] using h
  case nilCheck x =>
    obtain ⟨u, hu, rfl⟩ := Option.map_eq_some_iff.1 hs
    obtain ⟨rfl, rfl, h1, h2, h3, h4⟩ := nilSem_run h
    simp only [execOp, hf.rd hu]
    simp [pure, Sem.run]
  case slice t x lo hi mx =>
    unfold sliceSem at hs
    split at hs
    · rename_i x' lo' hi' mx' h1 h2 h3 h4
      obtain rfl := Option.some.inj hs
      simp only [execOp, hf.rd h1, hf.rdo h2, hf.rdo h3, hf.rdo h4]
      exact run_value h
    · cases hs
  case makeFunc fn x y =>
    split at hs
    · rename_i x' y' h1 h2
      obtain rfl := Option.some.inj hs
      simp only [execOp, hf.rdsA h1, hf.rdsA h2]
      exact run_value h
    · cases hs
  case build t ps =>
    obtain ⟨l, hl, rfl⟩ := Option.map_eq_some_iff.1 hs
    simp only [execOp, hf.rdpA hl]
    exact run_value h
  case buildSlice t n ps =>
    obtain ⟨l, hl, rfl⟩ := Option.map_eq_some_iff.1 hs
    simp only [execOp, hf.rdpA hl]
    exact run_value h
  case makeMap t r =>
    obtain ⟨l, hl, rfl⟩ := Option.map_eq_some_iff.1 hs
    simp only [execOp, hf.rdo hl]
    exact run_value h
  case alloc e =>
    obtain rfl := Option.some.inj hs
    simp only [execOp]
    exact run_value h
  case call c =>
    unfold callSem at hs
    split at hs
    · rename_i b hb
      split at hs
      · rename_i vs hvs
        have hargs := hf.rdsA hvs
        cases b <;> simp only [builtinSem] at hs <;> (try (cases hs; done))
        all_goals
          obtain rfl := Option.some.inj hs
          simp only [execOp, resolve, hb, invoke, builtin, hargs]
          exact run_value h
      · cases hs
    · cases hs
  all_goals
    first
      | (obtain ⟨u, hu, rfl⟩ := Option.map_eq_some_iff.1 hs
         simp only [execOp, hf.rd hu]
         exact run_value h)
      | (obtain ⟨u, v', hu, hv, rfl⟩ := op2_some hs
         simp only [execOp, hf.rd hu, hf.rd hv]
         exact run_value h)

theorem unitOf_run {P : Program} {fr : Fr} {a : Act} (hf : Fits fr a) {o : Oper} {s : Sem Unit} (hs : unitOf fr o.op = some s) {w w' : World} (h : s.run P w = .ok () w') :
    (execOp a.eval o).run P w = .ok .skip w' := by
  obtain ⟨dst, op, ty, pos, after, guard⟩ := o
  simp only at hs
  cases op <;> simp only [unitOf] at hs <;> (try (cases hs; done))
  case store t x y =>
    obtain ⟨u, v', hu, hv, rfl⟩ := op2_some hs
    simp only [execOp, hf.rd hu, hf.rd hv]
    exact run_skip h
  all_goals
    split at hs
    · rename_i x' y' z' h1 h2 h3
      obtain rfl := Option.some.inj hs
      simp only [execOp, hf.rd h1, hf.rd h2, hf.rd h3]
      exact run_skip h
    · cases hs

theorem callOf_run {P : Program} {fr : Fr} {a : Act} (hf : Fits fr a) {o : Oper} {s : Sem Next} (hs : callOf fr o.op = some s) (w : World) :
    (execOp a.eval o).run P w = s.run P w := by
  obtain ⟨dst, op, ty, pos, after, guard⟩ := o
  simp only at hs
  cases op <;> simp only [callOf] at hs <;> (try (cases hs; done))
  case call c =>
    split at hs
    · rename_i vs hvs
      have hargs := hf.rdsA hvs
      obtain ⟨callee, args, argTypes⟩ := c
      simp only at hs hargs
      unfold calleeSem at hs
      split at hs
      · obtain rfl := Option.some.inj hs
        simp [execOp, resolve, invoke, Act.eval, Deferred.ofValue, hargs, Sem.run_bind, Result.andThen]
      · obtain ⟨v, hv, rfl⟩ := Option.map_eq_some_iff.1 hs
        simp only [execOp, resolve, hf.rd hv, hargs]
      · obtain ⟨v, hv, rfl⟩ := Option.map_eq_some_iff.1 hs
        simp [execOp, resolve, invoke, hf.rd hv, hargs, Sem.run_bind, Result.andThen]
      · cases hs
    · cases hs

theorem vcOp_sound {P : Program} {fr : Fr} {a : Act} (hf : Fits fr a) {o : Oper} {w : World} {K : Value → World → Prop} {K' : Act → World → Prop} {Q : Exit → Act → World → Prop}
    (h : vcOp P fr o.op o.type w K) (hK : ∀ v w', K v w' → K' (a.put o.dst v) w') : o.wp P a w K' Q := by
  have other : (match semOf fr o.type o.op with
      | some s => Run P s w K
      | none =>
        match unitOf fr o.op with
        | some s => RunU P s w (K undef)
        | none =>
          match callOf fr o.op with
          | some s => GoN P s w K
          | none => False) → o.wp P a w K' Q := by
    intro h
    unfold Oper.wp
    split at h
    · rename_i s hs
      obtain ⟨v, w', hr, hk⟩ := h
      rw [semOf_run hf hs hr]
      exact hK _ _ hk
    · split at h
      · rename_i s hs
        obtain ⟨w', hr, hk⟩ := h
        rw [unitOf_run hf hs hr]
        exact hK _ _ hk
      · split at h
        · rename_i s hs
          rw [callOf_run hf hs]
          replace h := h.h
          split at h
          · rename_i v w' hr
            rw [hr]
            exact hK _ _ h
          · rename_i f args w' hr
            rw [hr]
            exact h.mono fun e w'' ⟨v, he, hk⟩ => by subst he; exact hK _ _ hk
          · exact h.elim
        · exact h.elim
  unfold vcOp at h
  split at h
  · rename_i x hop
    split at h
    · rename_i v hv
      unfold Oper.wp
      have : (execOp a.eval o).run P w = .ok (.value v) w := by
        simp [execOp, hop, hf.rd hv, pure, Sem.run]
      rw [this]
      exact hK _ _ h
    · exact h.elim
  · rename_i x hop
    split at h
    · rename_i v hv
      unfold Oper.wp
      have : (execOp a.eval o).run P w = .ok (.value v) w := by
        simp [execOp, hop, hf.rd hv, pure, Sem.run]
      rw [this]
      exact hK _ _ h
    · exact h.elim
  · rename_i c x y hop
    split at h
    · rename_i c' x' y' h1 h2 h3
      obtain ⟨t, ht, hk⟩ := h
      unfold Oper.wp
      have : (execOp a.eval o).run P w = .ok (.value (if t then x' else y')) w := by
        subst ht
        cases t <;> simp [execOp, hop, hf.rd h1, hf.rd h2, hf.rd h3, asBool, pure, Sem.run, Sem.run_bind, Result.andThen]
      rw [this]
      exact hK _ _ hk
    · exact h.elim
  · exact other h
end Go.V
