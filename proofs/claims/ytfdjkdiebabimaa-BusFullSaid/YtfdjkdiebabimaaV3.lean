/- A region whose order the tape draws: where all operations but a forced tail yield one value in every world that extends the first, one walk in the order of the text serves every order. Conditions: none. -/
import Derived.Test.YtfdjkdiebabimaaV2
import Derived.StillTail
set_option linter.unusedVariables false
set_option linter.unusedSimpArgs false
namespace Go.V
open Go.RowKit

/-- Nothing that was there has turned. -/
abbrev Ext (w w' : World) : Prop := Below w.heap.size w w'
theorem Ext.refl (w : World) : Ext w w := Below.refl _ w
theorem Ext.trans {a b c : World} (h : Ext a b) (k : Ext b c) : Ext a c := Below.trans h (Below.mono k h.size)
theorem Ext.drawn (w : World) : Ext w { w with drawn := w.drawn + 1 } := ⟨rfl, rfl, rfl, Nat.le_refl _, fun _ _ => rfl⟩

section
variable {P : Program} {ops : Array Oper} {md : Region.Mode} {E : World → Prop} {spec : Oper → Bool}
/-- An operation carried out, with no panic. -/
def Sp (P : Program) (o : Oper) (a : Act) (w : World) (N : Value → World → Prop) : Prop :=
  match (execOp a.eval o).run P w with
  | .ok (.value v) w' => N v w'
  | .ok .skip w' => N undef w'
  | .ok (.enter f args) w' => Calls P f args w' fun e w'' => ∃ v, e = .returned v ∧ N v w''
  | _ => False
theorem Sp.mono {o : Oper} {a : Act} {w : World} {N N' : Value → World → Prop} (h : Sp P o a w N) (hn : ∀ v w', N v w' → N' v w') : Sp P o a w N' := by
  unfold Sp at *
  split at h
  · exact hn _ _ h
  · exact hn _ _ h
  · exact h.mono fun e w'' ⟨v, he, hk⟩ => ⟨v, he, hn _ _ hk⟩
  · exact h.elim
theorem Sp.some {o : Oper} {a : Act} {w : World} {N : Value → World → Prop} (h : Sp P o a w N) : ∃ v w', N v w' := by
  unfold Sp at h
  split at h
  · exact ⟨_, _, h⟩
  · exact ⟨_, _, h⟩
  · obtain ⟨e, w', fr, ⟨v, _, hn⟩, _⟩ := h []
    exact ⟨v, w', hn⟩
  · exact h.elim
theorem Sp.wp {o : Oper} {a : Act} {w : World} {N : Value → World → Prop} {K : Act → World → Prop} {Q : Exit → Act → World → Prop} (h : Sp P o a w N) (hn : ∀ v w', N v w' → K (a.put o.dst v) w') : o.wp P a w K Q := by
  unfold Sp at h
  unfold Oper.wp
  split at h
  · rename_i hr; rw [hr]; exact hn _ _ h
  · rename_i hr; rw [hr]; exact hn _ _ h
  · rename_i hr; rw [hr]; exact h.mono fun e w'' ⟨v, he, hk⟩ => by subst he; exact hn _ _ hk
  · exact h.elim
theorem Sp.congr {o : Oper} {a a' : Act} {w : World} {N : Value → World → Prop} (h : Sp P o a w N) (he : execOp a'.eval o = execOp a.eval o) : Sp P o a' w N := by
  unfold Sp at *
  rw [he]
  exact h
/-- An operation that in every world that extends w0 yields v and leaves the world alone; or one whose guard says no. -/
def YR (P : Program) (ops : Array Oper) (E : World → Prop) (o : Oper) (v : Value) (a : Act) : Prop :=
  (Region.wanted o (yielded ops a.tmps) = true ∧ ∀ w1, E w1 → (execOp a.eval o).run P w1 = .ok (.value v) w1) ∨ (Region.wanted o (yielded ops a.tmps) = false ∧ v = undef)
theorem YR.unique {o : Oper} {u v : Value} {a : Act} {w : World} (hw : E w) (h : YR P ops E o v a) (k : YR P ops E o u a) : u = v := by
  rcases h with ⟨h1, h2⟩ | ⟨h1, rfl⟩
  · rcases k with ⟨k1, k2⟩ | ⟨k1, _⟩
    · have := (h2 w hw).symm.trans (k2 w hw)
      injection this with e _
      injection e with e
      exact e.symm
    · rw [h1] at k1; cases k1
  · rcases k with ⟨k1, k2⟩ | ⟨_, rfl⟩
    · rw [h1] at k1; cases k1
    · rfl
theorem YR.of_same {o : Oper} {v : Value} {a a' : Act} (hy : YR P ops E o v a) (he : execOp a'.eval o = execOp a.eval o)
    (hw : Region.wanted o (yielded ops a'.tmps) = Region.wanted o (yielded ops a.tmps)) : YR P ops E o v a' := by
  unfold YR at *
  rw [he, hw]
  exact hy
def stepM (P : Program) (ops : Array Oper) (E : World → Prop) (spec : Oper → Bool) (i : Nat) (N : Act → World → Prop) (a : Act) (w : World) : Prop :=
  match ops[i]? with
  | none => N a w
  | some o =>
    if spec o then
      if Region.wanted o (yielded ops a.tmps) then Sp P o a w fun v w' => E w' ∧ N (a.put o.dst v) w' else N (a.put o.dst undef) w
    else ∃ v, YR P ops E o v a ∧ N (a.put o.dst v) w
theorem stepM_mono {i : Nat} {a : Act} {w : World} {N N' : Act → World → Prop} (hw : E w) (h : ∀ a w, E w → N a w → N' a w) (hh : stepM P ops E spec i N a w) : stepM P ops E spec i N' a w := by
  unfold stepM at *
  split
  · rename_i ho; simp only [ho] at hh; exact h _ _ hw hh
  · rename_i o ho
    simp only [ho] at hh
    split
    · rename_i hs
      rw [if_pos hs] at hh
      split
      · rename_i hwt
        rw [if_pos hwt] at hh
        exact hh.mono fun v w' ⟨h1, h2⟩ => ⟨h1, h _ _ h1 h2⟩
      · rename_i hwt
        rw [if_neg hwt] at hh
        exact h _ _ hw hh
    · rename_i hs
      rw [if_neg hs] at hh
      obtain ⟨v, h1, h2⟩ := hh
      exact ⟨v, h1, h _ _ hw h2⟩
theorem wpOp_of_stepM {i : Nat} {a : Act} {w : World} {N : Act → World → Prop} {Q' : Exit → Act → World → Prop} (hw : E w) (hh : stepM P ops E spec i N a w) : wpOp P ops Q' i (fun a w => E w ∧ N a w) a w := by
  unfold stepM at hh
  unfold wpOp
  split
  · rename_i ho; simp only [ho] at hh; exact ⟨hw, hh⟩
  · rename_i o ho
    simp only [ho] at hh
    split at hh
    · split at hh
      · rename_i hwt
        rw [if_pos hwt]
        exact .inl (hh.wp fun v w' h => h)
      · rename_i hwt
        rw [if_neg hwt]
        exact ⟨hw, hh⟩
    · obtain ⟨v, hy, hn⟩ := hh
      rcases hy with ⟨h1, h2⟩ | ⟨h1, rfl⟩
      · rw [if_pos h1]
        refine .inl ?_
        unfold Oper.wp
        rw [h2 w hw]
        exact ⟨hw, hn⟩
      · rw [h1]
        exact ⟨hw, hn⟩
/-- The head of a region in whatever order: f operations, all below n; then L. -/
def anyM (P : Program) (md : Region.Mode) (ops : Array Oper) (E : World → Prop) (spec : Oper → Bool) (n : Nat) (L : Array Bool → Act → World → Prop) : Nat → Array Bool → Act → World → Prop
  | 0, listed, a, w => L listed a w
  | f + 1, listed, a, w =>
    Region.ready md ops listed ≠ [] ∧ ∀ i ∈ Region.ready md ops listed, i < n ∧ stepM P ops E spec i (anyM P md ops E spec n L f (listed.setIfInBounds i true)) a w
theorem wpAny_of_anyM {n g : Nat} {L : Array Bool → Act → World → Prop} {Q' : Exit → Act → World → Prop} (hL : ∀ listed a w, E w → L listed a w → wpAny P md ops Q' g listed a w) :
    ∀ (f : Nat) (listed : Array Bool) (a : Act) (w : World), E w → anyM P md ops E spec n L f listed a w → wpAny P md ops Q' (f + g) listed a w
  | 0, listed, a, w, hw, h => by rw [Nat.zero_add]; exact hL _ _ _ hw h
  | f + 1, listed, a, w, hw, h => by
    rw [show f + 1 + g = (f + g) + 1 by omega]
    exact ⟨fun h0 => absurd h0 h.1, fun i hi => wpOp_mono (fun a' w' h' => wpAny_of_anyM hL f _ a' w' h'.1 h'.2) (wpOp_of_stepM hw (h.2 i hi).2)⟩
/-- No operation of the tail may come up while one of the head is open. -/
def Waits (md : Region.Mode) (ops : Array Oper) (n : Nat) : Prop :=
  ∀ (listed : Array Bool), HeadInv md ops n listed → ∀ i, i < n → listed.getD i true = false → ∀ t, n ≤ t → t ∉ Region.ready md ops listed
theorem notWaiting {i : Nat} {oj : Oper} {listed : Array Bool} (hall : ∀ e ∈ oj.after, Region.binds md e = true → listed.getD e.on false = true) (hun : listed.getD i true = false) : ∀ e ∈ oj.after, Region.binds md e = true → e.on ≠ i := fun e he hb heq => by
  have h1 := hall e he hb
  rw [heq, getD_both hun] at h1
  cases h1
theorem free_set {i j : Nat} {oi : Oper} {listed : Array Bool} (hjun : listed.getD j true = false)
    (hfree : ∀ k ok, ops[k]? = some ok → k ≠ i → listed.getD k true = false → (∀ e ∈ ok.after, Region.binds md e = true → e.on ≠ i) → oi.apart ops ok = true) :
    ∀ k ok, ops[k]? = some ok → k ≠ i → (listed.setIfInBounds j true).getD k true = false → (∀ e ∈ ok.after, Region.binds md e = true → e.on ≠ i) → oi.apart ops ok = true := fun k ok hk hki hun hno => by
  refine hfree k ok hk hki ?_ hno
  by_cases hjk : j = k
  · subst hjk; exact hjun
  · rw [getD_set_ne true hjk] at hun; exact hun
theorem anyM_rigid {n i : Nat} {oi : Oper} {v : Value} {L : Array Bool → Act → World → Prop} (hi : ops[i]? = some oi) (hsi : spec oi = false) (hsel : ∀ (j : Nat) (o : Oper) cs b, ops[j]? = some o → o.op ≠ .select cs b)
    (hwt : Waits md ops n) (hin : i < n) (hdone : ∀ listed a w, L listed a w → ∀ j ∈ Region.ready md ops listed, n ≤ j) :
    ∀ (f : Nat) (listed : Array Bool) (a : Act) (w : World), E w → HeadInv md ops n listed →
      (∀ j oj, ops[j]? = some oj → j ≠ i → listed.getD j true = false → (∀ e ∈ oj.after, Region.binds md e = true → e.on ≠ i) → oi.apart ops oj = true) →
      i ∈ Region.ready md ops listed → YR P ops E oi v a →
      anyM P md ops E spec n L f (listed.setIfInBounds i true) (a.put oi.dst v) w → anyM P md ops E spec n L (f + 1) listed a w := by
  have self : ∀ (N : Act → World → Prop) (a : Act) (w : World), YR P ops E oi v a → N (a.put oi.dst v) w → stepM P ops E spec i N a w := fun N a w hy h => by
    unfold stepM; simp only [hi, hsi]; exact ⟨v, hy, h⟩
  intro f
  induction f with
  | zero =>
    intro listed a w hw inv _ hr hy H
    have hun := (mem_ready.1 hr).1
    refine ⟨fun h => (by rw [h] at hr; cases hr), fun j hj => ?_⟩
    have hjn : j < n := by
      rcases Nat.lt_or_ge j n with h | h
      · exact h
      · exact absurd hj (hwt _ inv i hin hun j h)
    refine ⟨hjn, ?_⟩
    by_cases hji : j = i
    · subst hji; exact self _ _ _ hy H
    · have := hdone _ _ _ H j (ready_mono hj hji)
      omega
  | succ f ih =>
    intro listed a w hw inv hfree hr hy H
    have hun := (mem_ready.1 hr).1
    refine ⟨fun h => (by rw [h] at hr; cases hr), fun j hj => ?_⟩
    have hjn : j < n := by
      rcases Nat.lt_or_ge j n with h | h
      · exact h
      · exact absurd hj (hwt _ inv i hin hun j h)
    refine ⟨hjn, ?_⟩
    by_cases hji : j = i
    · subst hji; exact self _ _ _ hy H
    · have h1 := (H.2 j (ready_mono hj hji)).2
      obtain ⟨hjun, oj, hoj, hall⟩ := mem_ready.1 hj
      have hap := hfree j oj hoj hji hjun (notWaiting hall hun)
      obtain ⟨p1, p2, p3⟩ := Oper.apart_spec hap
      have hsI : ∀ cs b, oi.op ≠ .select cs b := fun cs b => hsel i oi cs b hi
      have hsJ : ∀ cs b, oj.op ≠ .select cs b := fun cs b => hsel j oj cs b hoj
      have next : ∀ u w', E w' → anyM P md ops E spec n L f ((listed.setIfInBounds i true).setIfInBounds j true) ((a.put oi.dst v).put oj.dst u) w' →
          anyM P md ops E spec n L (f + 1) (listed.setIfInBounds j true) (a.put oj.dst u) w' := fun u w' hw' h => by
        refine ih _ _ w' hw' (inv.set hj hjn) (free_set hjun hfree) (ready_mono hr (Ne.symm hji)) (hy.of_same (execOp_put oi hsI a oj.dst u p3) (wanted_put oi a oj.dst u p3)) ?_
        rw [Array.setIfInBounds_comm _ _ hji, ← Act.put_comm a v u p2]
        exact h
      unfold stepM at h1 ⊢
      simp only [hoj] at h1 ⊢
      rw [wanted_put oj a oi.dst v p1] at h1
      split
      · rename_i hs
        rw [if_pos hs] at h1
        split
        · rename_i hwj
          rw [if_pos hwj] at h1
          exact (h1.congr (execOp_put oj hsJ a oi.dst v p1).symm).mono fun u w' ⟨h2, h3⟩ => ⟨h2, next u w' h2 h3⟩
        · rename_i hwj
          rw [if_neg hwj] at h1
          exact next _ _ hw h1
      · rename_i hs
        rw [if_neg hs] at h1
        obtain ⟨u, hu, hn⟩ := h1
        exact ⟨u, hu.of_same (execOp_put oj hsJ a oi.dst v p1).symm (wanted_put oj a oi.dst v p1).symm, next u w hw hn⟩
/-- j waits for p, through at most f steps. -/
def waitsT (md : Region.Mode) (ops : Array Oper) : Nat → Nat → Nat → Bool
  | 0, _, _ => false
  | f + 1, j, p =>
    match ops[j]? with
    | some oj => oj.after.any fun e => Region.binds md e && (e.on == p || waitsT md ops f e.on p)
    | none => false
theorem waitsT_listed {n : Nat} {listed : Array Bool} (inv : HeadInv md ops n listed) : ∀ (f j p : Nat) (oj : Oper), ops[j]? = some oj → (∀ e ∈ oj.after, Region.binds md e = true → listed.getD e.on false = true) →
    waitsT md ops f j p = true → listed.getD p false = true
  | 0, _, _, _, _, _, h => by cases h
  | f + 1, j, p, oj, hj, hall, h => by
    unfold waitsT at h
    simp only [hj] at h
    obtain ⟨e, he, hb⟩ := Array.any_eq_true'.1 h
    simp only [Bool.and_eq_true, Bool.or_eq_true, beq_iff_eq] at hb
    rcases hb.2 with h1 | h1
    · rw [← h1]; exact hall e he hb.1
    · have hl := hall e he hb.1
      cases ho : ops[e.on]? with
      | none =>
        exfalso
        cases f with
        | zero => simp [waitsT] at h1
        | succ f => simp [waitsT, ho] at h1
      | some oq => exact waitsT_listed inv f e.on p oq ho (fun e' he' hb' => inv.closed e.on oq ho hl e' he' hb') h1
/-- Of the special operations only the first that is open may come up. -/
def Lone (md : Region.Mode) (ops : Array Oper) (spec : Oper → Bool) (n i : Nat) (listed : Array Bool) : Prop :=
  ∀ j oj, ops[j]? = some oj → j < n → spec oj = true → j ≠ i → listed.getD j true = true ∨ ∃ p, listed.getD p true = false ∧ (∃ op, ops[p]? = some op ∧ spec op = true) ∧ waitsT md ops 6 j p = true
theorem Lone.not_ready {n i j : Nat} {oj : Oper} {listed : Array Bool} (h : Lone md ops spec n i listed) (inv : HeadInv md ops n listed) (hoj : ops[j]? = some oj) (hjn : j < n) (hs : spec oj = true) (hne : j ≠ i) : j ∉ Region.ready md ops listed := by
  intro hr
  obtain ⟨hun, o, ho, hall⟩ := mem_ready.1 hr
  obtain rfl := Option.some.inj (hoj.symm.trans ho)
  rcases h j oj hoj hjn hs hne with h1 | ⟨p, hp, _, hw⟩
  · rw [hun] at h1; cases h1
  · have := waitsT_listed inv 6 j p oj hoj hall hw
    rw [getD_both hp] at this
    cases this
theorem Lone.set {n i j : Nat} {oj : Oper} {listed : Array Bool} (h : Lone md ops spec n i listed) (hoj : ops[j]? = some oj) (hs : spec oj = false) : Lone md ops spec n i (listed.setIfInBounds j true) := by
  intro k ok hk hkn hsk hki
  have hjk : j ≠ k := fun e => by subst e; rw [hk] at hoj; rw [Option.some.inj hoj] at hsk; rw [hs] at hsk; cases hsk
  rw [getD_set_ne true hjk]
  rcases h k ok hk hkn hsk hki with h1 | ⟨p, hp, ⟨op, hop, hsp⟩, he⟩
  · exact .inl h1
  · have hjp : j ≠ p := fun e => by subst e; rw [hop] at hoj; rw [Option.some.inj hoj] at hsp; rw [hs] at hsp; cases hsp
    exact .inr ⟨p, by rw [getD_set_ne true hjp]; exact hp, ⟨op, hop, hsp⟩, he⟩
theorem anyM_special {n i : Nat} {oi : Oper} {L : Array Bool → Act → World → Prop} (hi : ops[i]? = some oi) (hsi : spec oi = true) (hsel : ∀ (j : Nat) (o : Oper) cs b, ops[j]? = some o → o.op ≠ .select cs b)
    (hwt : Waits md ops n) (hin : i < n) (hdone : ∀ listed a w, L listed a w → ∀ j ∈ Region.ready md ops listed, n ≤ j) :
    ∀ (f : Nat) (listed : Array Bool) (a : Act) (w : World), E w → HeadInv md ops n listed → Lone md ops spec n i listed →
      (∀ j oj, ops[j]? = some oj → j ≠ i → listed.getD j true = false → (∀ e ∈ oj.after, Region.binds md e = true → e.on ≠ i) → oi.apart ops oj = true) →
      i ∈ Region.ready md ops listed →
      stepM P ops E spec i (anyM P md ops E spec n L f (listed.setIfInBounds i true)) a w → anyM P md ops E spec n L (f + 1) listed a w := by
  intro f
  induction f with
  | zero =>
    intro listed a w hw inv _ _ hr H
    have hun := (mem_ready.1 hr).1
    refine ⟨fun h => (by rw [h] at hr; cases hr), fun j hj => ?_⟩
    have hjn : j < n := by
      rcases Nat.lt_or_ge j n with h | h
      · exact h
      · exact absurd hj (hwt _ inv i hin hun j h)
    refine ⟨hjn, ?_⟩
    by_cases hji : j = i
    · subst hji; exact H
    · exfalso
      unfold stepM at H
      simp only [hi, hsi, if_true] at H
      split at H
      · obtain ⟨v, w', _, h2⟩ := H.some
        have := hdone _ _ _ h2 j (ready_mono hj hji)
        omega
      · have := hdone _ _ _ H j (ready_mono hj hji)
        omega
  | succ f ih =>
    intro listed a w hw inv hlone hfree hr H
    have hun := (mem_ready.1 hr).1
    refine ⟨fun h => (by rw [h] at hr; cases hr), fun j hj => ?_⟩
    have hjn : j < n := by
      rcases Nat.lt_or_ge j n with h | h
      · exact h
      · exact absurd hj (hwt _ inv i hin hun j h)
    refine ⟨hjn, ?_⟩
    by_cases hji : j = i
    · subst hji; exact H
    · obtain ⟨hjun, oj, hoj, hall⟩ := mem_ready.1 hj
      have hsj : spec oj = false := by
        cases h : spec oj with
        | false => rfl
        | true => exact absurd hj (hlone.not_ready inv hoj hjn h hji)
      have hap := hfree j oj hoj hji hjun (notWaiting hall hun)
      obtain ⟨p1, p2, p3⟩ := Oper.apart_spec hap
      have hsI : ∀ cs b, oi.op ≠ .select cs b := fun cs b => hsel i oi cs b hi
      have hsJ : ∀ cs b, oj.op ≠ .select cs b := fun cs b => hsel j oj cs b hoj
      -- what j yields, behind i
      have behind : ∀ v w', anyM P md ops E spec n L (f + 1) (listed.setIfInBounds i true) (a.put oi.dst v) w' →
          ∃ u, YR P ops E oj u a ∧ anyM P md ops E spec n L f ((listed.setIfInBounds i true).setIfInBounds j true) ((a.put oi.dst v).put oj.dst u) w' := fun v w' h => by
        have h1 := (h.2 j (ready_mono hj hji)).2
        unfold stepM at h1
        simp only [hoj, hsj, Bool.false_eq_true, if_false] at h1
        obtain ⟨u, hu, hn⟩ := h1
        exact ⟨u, hu.of_same (execOp_put oj hsJ a oi.dst v p1).symm (wanted_put oj a oi.dst v p1).symm, hn⟩
      have fin : ∀ u, YR P ops E oj u a → stepM P ops E spec i (anyM P md ops E spec n L f ((listed.setIfInBounds j true).setIfInBounds i true)) (a.put oj.dst u) w →
          stepM P ops E spec j (anyM P md ops E spec n L (f + 1) (listed.setIfInBounds j true)) a w := fun u hu h => by
        unfold stepM
        simp only [hoj, hsj, Bool.false_eq_true, if_false]
        exact ⟨u, hu, ih _ _ w hw (inv.set hj hjn) (hlone.set hoj hsj) (free_set hjun hfree) (ready_mono hr (Ne.symm hji)) h⟩
      unfold stepM at H
      simp only [hi, hsi, if_true] at H
      split at H
      · rename_i hwi
        obtain ⟨v, w', _, h2⟩ := H.some
        obtain ⟨u, hu, _⟩ := behind v w' h2
        refine fin u hu ?_
        unfold stepM
        simp only [hi, hsi, if_true]
        rw [wanted_put oi a oj.dst u p3, if_pos hwi]
        refine (H.congr (execOp_put oi hsI a oj.dst u p3)).mono fun v w' ⟨h3, h4⟩ => ⟨h3, ?_⟩
        obtain ⟨u', hu', h5⟩ := behind v w' h4
        rw [hu.unique hw hu'] at h5
        rw [Array.setIfInBounds_comm _ _ hji, ← Act.put_comm a v u p2]
        exact h5
      · rename_i hwi
        obtain ⟨u, hu, h5⟩ := behind undef w H
        refine fin u hu ?_
        unfold stepM
        simp only [hi, hsi, if_true]
        rw [wanted_put oi a oj.dst u p3, if_neg hwi]
        rw [Array.setIfInBounds_comm _ _ hji, ← Act.put_comm a undef u p2]
        exact h5
/-- The lexical walk of the head. -/
def lexM (P : Program) (ops : Array Oper) (E : World → Prop) (spec : Oper → Bool) (L : Act → World → Prop) : List Oper → Act → World → Prop
  | [], a, w => L a w
  | o :: rest, a, w =>
    if spec o then
      if Region.wanted o (yielded ops a.tmps) then Sp P o a w fun v w' => E w' ∧ lexM P ops E spec L rest (a.put o.dst v) w' else lexM P ops E spec L rest (a.put o.dst undef) w
    else ∃ v, YR P ops E o v a ∧ lexM P ops E spec L rest (a.put o.dst v) w
/-- The special one ahead of j. -/
def prevSp (spec : Oper → Bool) (ops : Array Oper) : Nat → Option Nat
  | 0 => none
  | j + 1 =>
    match ops[j]? with
    | some o => if spec o then some j else prevSp spec ops j
    | none => prevSp spec ops j
def chainSp (md : Region.Mode) (spec : Oper → Bool) (ops : Array Oper) (n : Nat) : Bool :=
  (List.range n).all fun j =>
    match ops[j]? with
    | some o => !spec o || (match prevSp spec ops j with | some p => waitsT md ops 6 j p | none => true)
    | none => true
theorem prevSp_spec (j : Nat) : match prevSp spec ops j with
    | some p => p < j ∧ (∃ o, ops[p]? = some o ∧ spec o = true) ∧ ∀ q o, p < q → q < j → ops[q]? = some o → spec o = false
    | none => ∀ q o, q < j → ops[q]? = some o → spec o = false := by
  induction j with
  | zero => intro q o hq; omega
  | succ j ih =>
    have skip : (∀ o, ops[j]? = some o → spec o = false) → prevSp spec ops (j + 1) = prevSp spec ops j → match prevSp spec ops (j + 1) with
        | some p => p < j + 1 ∧ (∃ o, ops[p]? = some o ∧ spec o = true) ∧ ∀ q o, p < q → q < j + 1 → ops[q]? = some o → spec o = false
        | none => ∀ q o, q < j + 1 → ops[q]? = some o → spec o = false := by
      intro hj he
      rw [he]
      cases hp : prevSp spec ops j with
      | some p =>
        rw [hp] at ih
        refine ⟨by omega, ih.2.1, fun q o h1 h2 h3 => ?_⟩
        rcases Nat.lt_or_ge q j with h | h
        · exact ih.2.2 q o h1 h h3
        · obtain rfl : q = j := by omega
          exact hj o h3
      | none =>
        rw [hp] at ih
        intro q o h2 h3
        rcases Nat.lt_or_ge q j with h | h
        · exact ih q o h h3
        · obtain rfl : q = j := by omega
          exact hj o h3
    cases ho : ops[j]? with
    | none => exact skip (fun o h => by rw [ho] at h; cases h) (by simp [prevSp, ho])
    | some o =>
      by_cases hs : spec o = true
      · have he : prevSp spec ops (j + 1) = some j := by simp [prevSp, ho, hs]
        rw [he]
        exact ⟨by omega, ⟨o, ho, hs⟩, fun q o' h1 h2 => by omega⟩
      · exact skip (fun o' h => by rw [ho] at h; rw [← Option.some.inj h]; simpa using hs) (by simp [prevSp, ho, hs])
theorem lone_of_chain {n k : Nat} {listed : Array Bool} (hc : chainSp md spec ops n = true) (hlt : ∀ j, j < k → listed.getD j true = true) (hge : ∀ j, k ≤ j → j < ops.size → listed.getD j true = false) {ok : Oper} (hk : ops[k]? = some ok) (hsk : spec ok = true) :
    Lone md ops spec n k listed := by
  intro j oj hoj hjn hsj hne
  rcases Nat.lt_or_ge j k with h | h
  · exact .inl (hlt j h)
  · refine .inr ?_
    have h1 := List.all_eq_true.1 hc j (List.mem_range.2 hjn)
    simp only [hoj, hsj, Bool.not_true, Bool.false_or] at h1
    have h2 := prevSp_spec (spec := spec) (ops := ops) j
    cases hp : prevSp spec ops j with
    | none =>
      rw [hp] at h2
      have := h2 k ok (by omega) hk
      rw [hsk] at this; cases this
    | some p =>
      rw [hp] at h1 h2
      obtain ⟨h3, ⟨op, hop, hsp⟩, h5⟩ := h2
      have hpk : k ≤ p := by
        rcases Nat.lt_or_ge p k with h | h
        · have := h5 k ok h (by omega) hk
          rw [hsk] at this; cases this
        · exact h
      exact ⟨p, hge p hpk (Array.getElem?_eq_some_iff.1 hop).1, ⟨op, hop, hsp⟩, h1⟩
theorem anyM_lex {n g : Nat} {L : Act → World → Prop} (hsel : Region.noSelect ops = true) (hwt : Waits md ops n) (hc : chainSp md spec ops n = true) :
    ∀ (l : List Oper) (k : Nat) (listed : Array Bool) (a : Act) (w : World), E w → (∀ j, j < l.length → l[j]? = ops[k + j]?) → k + l.length = n → HeadInv md ops n listed →
    (∀ j, j < k → listed.getD j true = true) → (∀ j, k ≤ j → j < ops.size → listed.getD j true = false) →
    Region.lexHead md ops g l.length k listed = true → lexM P ops E spec L l a w →
    anyM P md ops E spec n (fun listed' a' w' => Region.seqB md ops g n listed' = true ∧ L a' w') l.length listed a w
  | [], k, listed, a, w, hw, _, hk, _, _, _, hB, h => by
    have : k = n := by simpa using hk
    subst this
    exact ⟨by simpa [Region.lexHead] using hB, h⟩
  | o :: l, k, listed, a, w, hw, hl, hk, inv, hlt, hge, hB, h => by
    have h0 : ops[k]? = some o := by simpa using (hl 0 (by simp)).symm
    simp only [List.length_cons, Region.lexHead, Bool.and_eq_true] at hB
    obtain ⟨⟨hr, hf⟩, hB'⟩ := hB
    have hkn : k < n := by simp only [List.length_cons] at hk; omega
    have hr' : k ∈ Region.ready md ops listed := by simpa using hr
    have hks : k < ops.size := (Array.getElem?_eq_some_iff.1 h0).1
    have rec' : ∀ a' w', E w' → lexM P ops E spec L l a' w' → anyM P md ops E spec n (fun listed' a' w' => Region.seqB md ops g n listed' = true ∧ L a' w') l.length (listed.setIfInBounds k true) a' w' := fun a' w' hw' h' =>
      anyM_lex hsel hwt hc l (k + 1) _ a' w' hw' (fun j hj => by have := hl (j + 1) (by simp; omega); simpa [Nat.add_assoc, Nat.add_comm 1 j] using this) (by simp only [List.length_cons] at hk; omega) (inv.set hr' hkn)
        (fun j hj => by
          by_cases e : k = j
          · subst e
            rcases Nat.lt_or_ge k listed.size with h | h
            · simp [h]
            · rw [inv.size] at h; omega
          · rw [getD_set_ne true e]; exact hlt j (by omega))
        (fun j hj hjs => by rw [getD_set_ne true (by omega)]; exact hge j (by omega) hjs) hB' h'
    have hdone : ∀ listed' (a' : Act) (w' : World), (Region.seqB md ops g n listed' = true ∧ L a' w') → ∀ j ∈ Region.ready md ops listed', n ≤ j := fun listed' a' w' hL => seqB_ready hL.1
    cases hs : spec o with
    | true =>
      refine anyM_special h0 hs (Region.noSelect_spec hsel) hwt hkn hdone l.length listed a w hw inv (lone_of_chain hc hlt hge h0 hs) (Region.free_spec h0 hf) hr' ?_
      unfold lexM at h
      unfold stepM
      simp only [h0, hs, if_true] at h ⊢
      split at h
      · rename_i hwt'
        rw [if_pos hwt']
        exact h.mono fun v w' ⟨h1, h2⟩ => ⟨h1, rec' _ _ h1 h2⟩
      · rename_i hwt'
        rw [if_neg hwt']
        exact rec' _ _ hw h
    | false =>
      unfold lexM at h
      simp only [hs, Bool.false_eq_true, if_false] at h
      obtain ⟨v, hy, hK⟩ := h
      exact anyM_rigid h0 hs (Region.noSelect_spec hsel) hwt hkn hdone l.length listed a w hw inv (Region.free_spec h0 hf) hr' hy (rec' _ _ hw hK)
/-- The Bool: n operations in whatever order, the special ones one behind the other; then the rest in the text's order. -/
def drawB (spec : Oper → Bool) (ops : Array Oper) (n : Nat) : Bool :=
  Region.noSelect ops && (decide (n = ops.size) || decide (n < ops.size) && Region.sinkB .any ops n && Region.chainB .any ops n) && decide (n ≤ ops.size) &&
    Region.lexHead .any ops (ops.size - n) n 0 (Array.replicate ops.size false) && chainSp .any spec ops n
theorem wp_region_draws {id : Nat} {Q : Exit → Act → World → Prop} {a : Act} {w : World} {l : List Oper} (n : Nat) (hm : P.follows .mixedOrders = true) (hB : drawB spec l.toArray n = true)
    (h : ∀ w1, Ext w w1 → ∃ E : World → Prop, E w1 ∧ lexM P l.toArray E spec (fun a' w' => wpList P l.toArray Q (l.drop n) a' w') (l.take n) a w1) : (Code.region id l.toArray true).wp P Q a w := by
  simp only [drawB, Bool.and_eq_true, Bool.or_eq_true, decide_eq_true_eq] at hB
  obtain ⟨⟨⟨⟨hsel, hns⟩, hle⟩, hlex⟩, hc⟩ := hB
  have hle' : n ≤ l.length := by simpa using hle
  have hwt : Waits .any l.toArray n := by
    intro listed inv i hi hun t ht hr
    rcases hns with he | ⟨⟨hn, hs⟩, hc⟩
    · obtain ⟨_, o, ho, _⟩ := mem_ready.1 hr
      have := (Array.getElem?_eq_some_iff.1 ho).1
      omega
    · exact tail_waits hs hc hn inv _ i rfl hi hun t ht hr
  have htl : (l.take n).length = n := by simp; omega
  have inv0 : HeadInv .any l.toArray n (Array.replicate l.toArray.size false) :=
    ⟨by simp, fun j oj _ hl => (by rw [getD_replicate_false] at hl; cases hl), fun t _ ht => getD_in (by simpa using ht) (getD_replicate_false _ _)⟩
  obtain ⟨E, hE, hlx⟩ := h _ (Ext.drawn w)
  have hh := anyM_lex (P := P) (E := E) (md := .any) (n := n) (g := l.toArray.size - n) hsel hwt hc (l.take n) 0 (Array.replicate l.toArray.size false) a { w with drawn := w.drawn + 1 } hE
    (fun j hj => by rw [htl] at hj; simp [List.getElem?_take, hj]) (by rw [htl]; omega) inv0 (fun j hj => by omega) (fun j _ hj => getD_in (by simpa using hj) (getD_replicate_false _ _)) (by rw [htl]; exact hlex) hlx
  refine wp_region_any hm ?_
  have key := wpAny_of_anyM (P := P) (md := .any) (ops := l.toArray) (n := n) (g := l.toArray.size - n) (Q' := Q) (fun listed a' w' hw' hL => by
    have hs := wpAny_of_seq (P := P) (md := .any) (ops := l.toArray) (Q' := Q) (l.drop n) n listed a' w' (fun j => by simp [List.getElem?_drop])
      (by simpa using hL.1) hL.2
    simpa using hs) (l.take n).length (Array.replicate l.toArray.size false) a { w with drawn := w.drawn + 1 } hE hh
  have e : (l.take n).length + (l.toArray.size - n) = l.toArray.size := by rw [htl]; simp; omega
  rw [e] at key
  exact key
end
end Go.V
