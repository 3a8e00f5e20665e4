/- The condition of a body is sound. Conditions: none. -/
import Derived.Test.YtfdjkdiebabimaaV4
set_option linter.unusedVariables false
set_option linter.unusedSimpArgs false
namespace Go.V
open Go.RowKit

structure Keeps (S : List Nat) (a a' : Act) : Prop where
  size : a'.tmps.size = a.tmps.size
  same : ∀ i, i ∉ S → a'.tmps[i]? = a.tmps[i]?
theorem Keeps.refl (S : List Nat) (a : Act) : Keeps S a a := ⟨rfl, fun _ _ => rfl⟩
theorem Keeps.trans {S : List Nat} {a b c : Act} (h : Keeps S a b) (k : Keeps S b c) : Keeps S a c := ⟨k.size.trans h.size, fun i hi => (k.same i hi).trans (h.same i hi)⟩
theorem Keeps.mono {S T : List Nat} {a b : Act} (h : Keeps S a b) (hs : ∀ i, i ∈ S → i ∈ T) : Keeps T a b := ⟨h.size, fun i hi => h.same i fun h' => hi (hs i h')⟩
theorem Keeps.put {S : List Nat} {a b : Act} (h : Keeps S a b) (d : Option Tmp) (v : Value) (hd : ∀ x, d = some x → x ∈ S) : Keeps S a (b.put d v) := by
  cases d with
  | none => exact h
  | some d =>
    refine ⟨by simp [Act.put, h.size], fun i hi => ?_⟩
    have : d ≠ i := fun e => hi (e ▸ hd d rfl)
    simp [Act.put, Array.getElem?_setIfInBounds_ne this, h.same i hi]
theorem mem_nub (l : List Nat) (x : Nat) : x ∈ nub l ↔ x ∈ l := by
  induction l with
  | nil => simp [nub]
  | cons y r ih =>
    simp only [nub]
    split
    · rename_i h
      have : y ∈ nub r := by simpa using h
      constructor
      · intro hx; exact List.mem_cons_of_mem _ (ih.1 hx)
      · intro hx
        rcases List.mem_cons.1 hx with rfl | hx
        · exact this
        · exact ih.2 hx
    · simp [ih]
theorem mem_live (fr : Fr) (l : List Nat) (x : Nat) (v : Value) (hx : x ∈ l) (hv : fr.at x = some v) : x ∈ live fr l := by
  induction l with
  | nil => simp at hx
  | cons y r ih =>
    simp only [live]
    rcases List.mem_cons.1 hx with rfl | hx
    · rw [hv]; simp
    · split
      · exact List.mem_cons_of_mem _ (ih hx)
      · exact ih hx
/-- A frame put together again fits. -/
theorem Fits.join {fr g : Fr} {a a' : Act} {S J : List Nat} {vs : List Value} (h : Fits fr a) (h' : Fits g a') (hk : Keeps S a a') (hg : g.gets J = some vs) : Fits ((fr.forget S).puts J vs) a' := by
  refine ⟨by rw [Fr.length_puts, Fr.length_forget, h.size, hk.size], fun i v hi => ?_, h'.defers⟩
  rcases Fr.at_puts J vs _ g i v hg hi with ⟨h1, _⟩ | h1
  · obtain ⟨h2, h3⟩ := Fr.at_forget S fr i v h1
    rw [hk.same i h2]
    exact h.val i v h3
  · exact h'.val i v h1

def toQ (S : List Nat) (a : Act) (Q : Post) : Exit → Act → World → Prop
  | .normal, a', w' => Keeps S a a' ∧ ∃ fr', Fits fr' a' ∧ Q.normal fr' w'
  | .exit id, a', w' => Keeps S a a' ∧ ∃ fr', Fits fr' a' ∧ Q.exit id fr' w'
  | .ret, a', w' => ∃ fr', Fits fr' a' ∧ Q.ret fr' w'
  | _, _, _ => False

theorem guardAt_spec {ops : List Oper} {fr : Fr} {a : Act} (hf : Fits fr a) {j : Nat} {b : Value} (h : guardAt ops fr j = some b) {want : Bool} {o : Oper} (ho : o.guard = some (j, want)) :
    (b = .bool want → Region.wanted o (yielded ops.toArray a.tmps) = true) ∧ (b ≠ .bool want → Region.wanted o (yielded ops.toArray a.tmps) = false) := by
  unfold guardAt at h
  obtain ⟨d, hd, hb⟩ := Option.bind_eq_some_iff.1 h
  have hv := hf.val d b hb
  have hy : yielded ops.toArray a.tmps j = match b with | .bool b => some b | _ => none := by
    unfold yielded
    have : (ops.toArray[j]?.bind (·.dst)) = some d := by simpa using hd
    rw [this]
    simp only [Option.bind_some, hv]
    cases b <;> rfl
  unfold Region.wanted
  simp only [ho, hy]
  constructor
  · rintro rfl; simp
  · intro hne
    cases b <;> simp_all

theorem vcOps_sound {P : Program} {ops : List Oper} {K : Fr → World → Prop} {S : List Nat} {a₀ : Act} {Q : Exit → Act → World → Prop}
    (hQ : ∀ a w fr, Keeps S a₀ a → Fits fr a → K fr w → Q .normal a w) :
    ∀ (l : List Oper) (fr : Fr) (a : Act) (w : World), (∀ x, x ∈ dsts l → x ∈ S) → Keeps S a₀ a → Fits fr a → vcOps P ops K l fr w → wpList P ops.toArray Q l a w
  | [], fr, a, w, _, hk, hf, h => hQ a w fr hk hf h
  | o :: l, fr, a, w, hS, hk, hf, h => by
    have hd : ∀ x, o.dst = some x → x ∈ S := fun x hx => hS x (by simp [dsts, hx])
    have hS' : ∀ x, x ∈ dsts l → x ∈ S := fun x hx => hS x (by
      simp only [dsts]; split
      · exact List.mem_cons_of_mem _ hx
      · exact hx)
    have step : ∀ v w', vcOps P ops K l (fr.putO o.dst (some v)) w' → wpList P ops.toArray Q l (a.put o.dst v) w' := fun v w' h' =>
      vcOps_sound hQ l _ _ w' hS' (hk.put _ _ hd) (hf.putO _ _) h'
    simp only [vcOps] at h
    unfold wpList
    split at h
    · rename_i hg
      have hw : Region.wanted o (yielded ops.toArray a.tmps) = true := by simp [Region.wanted, hg]
      rw [if_pos hw]
      exact .inl (vcOp_sound hf h step)
    · rename_i j want hg
      split at h
      · rename_i b hb
        obtain ⟨h1, h2⟩ := guardAt_spec hf hb hg
        by_cases hbw : b = .bool want
        · rw [if_pos (h1 hbw)]
          exact .inl (vcOp_sound hf (h.1 hbw) step)
        · rw [h2 hbw]
          exact step _ _ (h.2 hbw)
      · exact h.elim

theorem vcOp_Sp {P : Program} {fr : Fr} {a : Act} (hf : Fits fr a) {o : Oper} {w : World} {K : Value → World → Prop} (h : vcOp P fr o.op o.type w K) : Sp P o a w K := by
  have other : (match semOf fr o.type o.op with
      | some s => Run P s w K
      | none =>
        match unitOf fr o.op with
        | some s => RunU P s w (K undef)
        | none =>
          match callOf fr o.op with
          | some s => GoN P s w K
          | none => False) → Sp P o a w K := by
    intro h
    unfold Sp
    split at h
    · rename_i s hs
      obtain ⟨v, w', hr, hk⟩ := h
      rw [semOf_run hf hs hr]
      exact hk
    · split at h
      · rename_i s hs
        obtain ⟨w', hr, hk⟩ := h
        rw [unitOf_run hf hs hr]
        exact hk
      · split at h
        · rename_i s hs
          rw [callOf_run hf hs]
          replace h := h.h
          split at h
          · rename_i v w' hr
            rw [hr]
            exact h
          · rename_i f args w' hr
            rw [hr]
            exact h
          · exact h.elim
        · exact h.elim
  unfold vcOp at h
  split at h
  · rename_i x hop
    split at h
    · rename_i v hv
      unfold Sp
      have : (execOp a.eval o).run P w = .ok (.value v) w := by
        simp [execOp, hop, hf.rd hv, pure, Sem.run]
      rw [this]
      exact h
    · exact h.elim
  · rename_i x hop
    split at h
    · rename_i v hv
      unfold Sp
      have : (execOp a.eval o).run P w = .ok (.value v) w := by
        simp [execOp, hop, hf.rd hv, pure, Sem.run]
      rw [this]
      exact h
    · exact h.elim
  · rename_i c x y hop
    split at h
    · rename_i c' x' y' h1 h2 h3
      obtain ⟨t, ht, hk⟩ := h
      unfold Sp
      have : (execOp a.eval o).run P w = .ok (.value (if t then x' else y')) w := by
        subst ht
        cases t <;> simp [execOp, hop, hf.rd h1, hf.rd h2, hf.rd h3, asBool, pure, Sem.run, Sem.run_bind, Result.andThen]
      rw [this]
      exact hk
    · exact h.elim
  · exact other h
theorem vcQ_sound {P : Program} {fr : Fr} {a : Act} (hf : Fits fr a) {o : Oper} {E : World → Prop} {K : Value → Prop} (h : vcQ P fr o.op o.type E K) :
    ∃ v, (∀ w1, E w1 → (execOp a.eval o).run P w1 = .ok (.value v) w1) ∧ K v := by
  unfold vcQ at h
  split at h
  · rename_i x hop
    split at h
    · rename_i v hv
      exact ⟨v, fun w1 _ => by simp [execOp, hop, hf.rd hv, pure, Sem.run], h⟩
    · exact h.elim
  · rename_i x hop
    split at h
    · rename_i v hv
      exact ⟨v, fun w1 _ => by simp [execOp, hop, hf.rd hv, pure, Sem.run], h⟩
    · exact h.elim
  · rename_i c x y hop
    split at h
    · rename_i c' x' y' h1 h2 h3
      obtain ⟨t, ht, hk⟩ := h
      refine ⟨_, fun w1 _ => ?_, hk⟩
      subst ht
      cases t <;> simp [execOp, hop, hf.rd h1, hf.rd h2, hf.rd h3, asBool, pure, Sem.run, Sem.run_bind, Result.andThen]
    · exact h.elim
  · split at h
    · rename_i s hs
      obtain ⟨v, hr, hk⟩ := h
      exact ⟨v, fun w1 hw1 => semOf_run hf hs (hr w1 hw1), hk⟩
    · exact h.elim

theorem vcHead_sound {P : Program} {ops : List Oper} {E : World → Prop} {K : Fr → World → Prop} {L : Act → World → Prop} {S : List Nat} {a₀ : Act}
    (hL : ∀ a fr w, Keeps S a₀ a → Fits fr a → K fr w → L a w) :
    ∀ (l : List Oper) (fr : Fr) (a : Act) (w : World), (∀ x, x ∈ dsts l → x ∈ S) → Keeps S a₀ a → Fits fr a → vcHead P ops E K l fr w → lexM P ops.toArray E (fun o => specOp o.op) L l a w
  | [], fr, a, w, _, hk, hf, h => hL a fr w hk hf h
  | o :: l, fr, a, w, hS, hk, hf, h => by
    have hd : ∀ x, o.dst = some x → x ∈ S := fun x hx => hS x (by simp [dsts, hx])
    have hS' : ∀ x, x ∈ dsts l → x ∈ S := fun x hx => hS x (by
      simp only [dsts]; split
      · exact List.mem_cons_of_mem _ hx
      · exact hx)
    have step : ∀ v w', vcHead P ops E K l (fr.putO o.dst (some v)) w' → lexM P ops.toArray E (fun o => specOp o.op) L l (a.put o.dst v) w' := fun v w' h' =>
      vcHead_sound hL l _ _ w' hS' (hk.put _ _ hd) (hf.putO _ _) h'
    simp only [vcHead] at h
    unfold lexM
    cases hsp : specOp o.op with
    | true =>
      rw [hsp] at h
      simp only [cond_true] at h
      simp only [if_true]
      split at h
      · rename_i hg
        have hw : Region.wanted o (yielded ops.toArray a.tmps) = true := by simp [Region.wanted, hg]
        rw [if_pos hw]
        exact (vcOp_Sp hf h).mono fun v w' ⟨h1, h2⟩ => ⟨h1, step v w' h2⟩
      · rename_i j want hg
        split at h
        · rename_i b hb
          obtain ⟨h1, h2⟩ := guardAt_spec hf hb hg
          by_cases hbw : b = .bool want
          · rw [if_pos (h1 hbw)]
            exact (vcOp_Sp hf (h.1 hbw)).mono fun v w' ⟨h1, h2⟩ => ⟨h1, step v w' h2⟩
          · rw [h2 hbw]
            exact step _ _ (h.2 hbw).2
        · exact h.elim
    | false =>
      rw [hsp] at h
      simp only [cond_false] at h
      simp only [Bool.false_eq_true, if_false]
      split at h
      · rename_i hg
        have hw : Region.wanted o (yielded ops.toArray a.tmps) = true := by simp [Region.wanted, hg]
        obtain ⟨v, hy, hv⟩ := vcQ_sound hf h
        exact ⟨v, .inl ⟨hw, hy⟩, step v w hv⟩
      · rename_i j want hg
        split at h
        · rename_i b hb
          obtain ⟨h1, h2⟩ := guardAt_spec hf hb hg
          by_cases hbw : b = .bool want
          · obtain ⟨v, hy, hv⟩ := vcQ_sound hf (h.1 hbw)
            exact ⟨v, .inl ⟨h1 hbw, hy⟩, step v w hv⟩
          · exact ⟨undef, .inr ⟨h2 hbw, rfl⟩, step _ w (h.2 hbw)⟩
        · exact h.elim
theorem dsts_take (l : List Oper) (n x : Nat) (h : x ∈ dsts (l.take n)) : x ∈ dsts l := by
  induction l generalizing n with
  | nil => simp at h; exact h
  | cons o r ih =>
    cases n with
    | zero => simp [dsts] at h
    | succ n =>
      simp only [List.take_succ_cons, dsts] at h ⊢
      split at h
      · rcases List.mem_cons.1 h with rfl | h
        · exact List.mem_cons_self
        · exact List.mem_cons_of_mem _ (ih n h)
      · exact ih n h
theorem dsts_drop (l : List Oper) (n x : Nat) (h : x ∈ dsts (l.drop n)) : x ∈ dsts l := by
  induction l generalizing n with
  | nil => simp at h; exact h
  | cons o r ih =>
    cases n with
    | zero => exact h
    | succ n =>
      simp only [List.drop_succ_cons] at h
      simp only [dsts]
      split
      · exact List.mem_cons_of_mem _ (ih n h)
      · exact ih n h

theorem meet_spec {n : Nat} {J : List Nat} {F : Fr → World → Prop} {fr g : Fr} {S : List Nat} {w : World} (h : meet J.length J (joinK fr S J F) g w) :
    ∃ vs, g.gets J = some vs ∧ F ((fr.forget S).puts J vs) w := by
  unfold meet at h
  split at h
  · rename_i vs hg
    exact ⟨vs, hg, (NF.ap_mk _ _ _ _ (Fr.gets_length _ _ _ hg)).1 h⟩
  · exact h.elim

theorem vc_sound {P : Program} (es : List Nat) (hm : P.follows .mixedOrders = true) : ∀ (c : Code) (fr : Fr) (a : Act) (w : World) (Q : Post), Fits fr a → vc P es c fr w Q → c.wp P (toQ (sets c) a Q) a w
  | .skip, fr, a, w, Q, hf, h => wp_skip ⟨Keeps.refl _ _, fr, hf, h⟩
  | .region id ops false, fr, a, w, Q, hf, h => by
    refine wp_region_list ?_
    have := vcOps_sound (P := P) (ops := ops.toList) (K := Q.normal) (S := dsts ops.toList) (a₀ := a) (Q := toQ (dsts ops.toList) a Q)
      (fun a' w' fr' hk hf' hq => ⟨hk, fr', hf', hq⟩) ops.toList fr a w (fun _ h => h) (Keeps.refl _ _) hf h
    simpa [sets] using this
  | .region id ops true, fr, a, w, Q, hf, h => by
    unfold vc at h
    cases hN : drawN ops.toList with
    | none => rw [hN] at h; exact h.elim
    | some n =>
      rw [hN] at h
      simp only at h
      have hB : drawB (fun o => specOp o.op) ops.toList.toArray n = true := by
        unfold drawN at hN
        exact List.find?_some hN
      have fin : (∀ w1, Ext w w1 → ∃ E : World → Prop, E w1 ∧ vcHead P ops.toList E (fun fr' w' => vcOps P ops.toList Q.normal (ops.toList.drop n) fr' w') (ops.toList.take n) fr w1) → (Code.region id ops true).wp P (toQ (sets (.region id ops true)) a Q) a w := by
        intro h'
        have := wp_region_draws (P := P) (id := id) (Q := toQ (dsts ops.toList) a Q) (a := a) (w := w) (l := ops.toList) n hm hB
          (fun w1 hw1 => by
            obtain ⟨E, hE, hv⟩ := h' w1 hw1
            exact ⟨E, hE, vcHead_sound (P := P) (ops := ops.toList) (E := E) (S := dsts ops.toList) (a₀ := a) (fun a' fr' w' hk hf' hK =>
              vcOps_sound (P := P) (ops := ops.toList) (K := Q.normal) (S := dsts ops.toList) (a₀ := a) (Q := toQ (dsts ops.toList) a Q)
                (fun a' w' fr' hk hf' hq => ⟨hk, fr', hf', hq⟩) _ fr' a' w' (fun x hx => dsts_drop _ _ _ hx) hk hf' hK) _ fr a w1 (fun x hx => dsts_take _ _ _ hx) (Keeps.refl _ _) hf hv⟩)
        simpa [sets] using this
      cases hc : (n == headLen ops.toList && !es.contains id) with
      | true =>
        rw [hc] at h
        have h' : vcDraw P n ops.toList fr w Q.normal := h
        exact fin fun w1 hw1 => ⟨Ext w1, Ext.refl _, h' w1 hw1⟩
      | false =>
        rw [hc] at h
        have h' : vcDrawE P n ops.toList fr w Q.normal := h
        exact fin fun w1 hw1 => by
          obtain ⟨E, hE, hv⟩ := h' w1 hw1
          exact ⟨E, hE, hv⟩
  | .seq x y, fr, a, w, Q, hf, h => by
    refine wp_seq (Code.wp_mono (fun e a' w' hq => ?_) (vc_sound es hm x fr a w _ hf h))
    cases e with
    | normal =>
      obtain ⟨hk, fr', hf', hv⟩ := hq
      refine Code.wp_mono (fun e a'' w'' hq => ?_) (vc_sound es hm y fr' a' w' Q hf' hv)
      have hk1 : Keeps (sets (.seq x y)) a a' := hk.mono fun i hi => by simp [sets, hi]
      cases e with
      | normal => exact ⟨hk1.trans (hq.1.mono fun i hi => by simp [sets, hi]), hq.2⟩
      | exit id => exact ⟨hk1.trans (hq.1.mono fun i hi => by simp [sets, hi]), hq.2⟩
      | ret => exact hq
      | _ => exact hq.elim
    | exit id => exact ⟨hq.1.mono fun i hi => by simp [sets, hi], hq.2⟩
    | ret => exact hq
    | _ => exact hq.elim
  | .cond c x y, fr, a, w, Q, hf, h => by
    unfold vc at h
    split at h
    · rename_i cv hc
      obtain ⟨⟨b, rfl⟩, h1, h2⟩ := h
      have fin : ∀ (z : Code), (∀ i, i ∈ sets z → i ∈ sets (.cond c x y)) → z.wp P (toQ (sets z) a
          { Q with normal := meet _ (live fr (nub (sets x ++ sets y))) (joinK fr (nub (sets x ++ sets y)) (live fr (nub (sets x ++ sets y))) Q.normal) }) a w → z.wp P (toQ (sets (.cond c x y)) a Q) a w := by
        intro z hz hwp
        refine Code.wp_mono (fun e a' w' hq => ?_) hwp
        cases e with
        | normal =>
          obtain ⟨hk, fr', hf', hv⟩ := hq
          obtain ⟨vs, hg, hF⟩ := meet_spec (n := 0) hv
          refine ⟨hk.mono hz, _, Fits.join hf hf' (hk.mono fun i hi => (mem_nub _ _).2 ?_) hg, hF⟩
          simpa [sets] using hz i hi
        | exit id => exact ⟨hq.1.mono hz, hq.2⟩
        | ret => exact hq
        | _ => exact hq.elim
      refine wp_cond (hf.rd hc) ?_
      cases b with
      | true => exact fin x (fun i hi => by simp [sets, hi]) (vc_sound es hm x fr a w _ hf (h1 rfl))
      | false => exact fin y (fun i hi => by simp [sets, hi]) (vc_sound es hm y fr a w _ hf (h2 rfl))
    · exact h.elim
  | .block id b, fr, a, w, Q, hf, h => by
    refine wp_block (Code.wp_mono (fun e a' w' hq => ?_) (vc_sound es hm b fr a w _ hf (JoinP.h h)))
    have fin : ∀ (a' : Act) (w' : World) (fr' : Fr), Keeps (sets b) a a' → Fits fr' a' → meet _ (live fr (nub (sets b))) (joinK fr (nub (sets b)) (live fr (nub (sets b))) Q.normal) fr' w' → toQ (sets b) a Q .normal a' w' := by
      intro a' w' fr' hk hf' hv
      obtain ⟨vs, hg, hF⟩ := meet_spec (n := 0) hv
      exact ⟨hk, _, Fits.join hf hf' (hk.mono fun i hi => (mem_nub _ _).2 hi) hg, hF⟩
    cases e with
    | normal =>
      obtain ⟨hk, fr', hf', hv⟩ := hq
      exact fin a' w' fr' hk hf' hv
    | exit i =>
      obtain ⟨hk, fr', hf', hv⟩ := hq
      simp only [Exit.inBlock]
      by_cases hi : i = id
      · rw [if_pos hi]
        subst hi
        simp only [beq_self_eq_true, cond_true] at hv
        exact fin a' w' fr' hk hf' hv
      · rw [if_neg hi]
        have : (i == id) = false := by simpa using hi
        simp only [this, cond_false] at hv
        exact ⟨hk, fr', hf', hv⟩
    | ret => exact hq
    | _ => exact hq.elim
  | .loop b, fr, a, w, Q, hf, h => by
    unfold vc at h
    dsimp only at h
    split at h
    · rename_i vs₀ hg₀
      obtain ⟨I, μ, h0, hr⟩ := h
      refine wp_loop (fun a' w' => Keeps (sets b) a a' ∧ ∃ vs, vs.length = (live fr (nub (sets b))).length ∧ Fits ((fr.forget (nub (sets b))).puts (live fr (nub (sets b))) vs) a' ∧
          (∃ g, Fits g a' ∧ g.gets (live fr (nub (sets b))) = some vs) ∧ I vs w')
        (fun a' w' => μ (((live fr (nub (sets b))).map fun i => a'.tmps.getD i undef)) w') ?_ ?_
      · exact ⟨Keeps.refl _ _, vs₀, Fr.gets_length _ _ _ hg₀, Fits.join hf hf (Keeps.refl _ _) hg₀, ⟨fr, hf, hg₀⟩, h0⟩
      · rintro a' w' ⟨hk, vs, hlen, hf', ⟨g, hg1, hg2⟩, hI⟩
        have hread : ∀ (l : List Nat) (us : List Value) (g : Fr) (a' : Act), Fits g a' → g.gets l = some us → (l.map fun i => a'.tmps.getD i undef) = us := by
          intro l
          induction l with
          | nil => intro us g a' _ h; simp [Fr.gets] at h; subst h; rfl
          | cons j js ih =>
            intro us g a' hf h
            simp only [Fr.gets] at h
            split at h
            · rename_i v us' h1 h2
              obtain rfl := Option.some.inj h
              have e := hf.val j v h1
              rw [List.map_cons, ih us' g a' hf h2]
              simp [e]
            · cases h
        have h1 := hr vs w' hlen hI
        rw [NF.ap_mk _ _ _ _ hlen] at h1
        refine Code.wp_mono (fun e a'' w'' hq => ?_) (vc_sound es hm b _ a' w' _ hf' h1)
        cases e with
        | normal =>
          obtain ⟨hk2, fr'', hf'', hv⟩ := hq
          unfold meet at hv
          dsimp only at hv
          split at hv
          · rename_i us hus
            rw [NF.ap_mk _ _ _ _ (Fr.gets_length _ _ _ hus)] at hv
            refine ⟨⟨hk.trans hk2, us, Fr.gets_length _ _ _ hus, Fits.join hf hf'' ((hk.trans hk2).mono fun i hi => (mem_nub _ _).2 hi) hus, ⟨fr'', hf'', hus⟩, hv.1⟩, ?_⟩
            rw [hread _ _ _ _ hf'' hus, hread _ _ _ _ hg1 hg2]
            exact hv.2
          · exact hv.elim
        | exit id => exact ⟨hk.trans hq.1, hq.2⟩
        | ret => exact hq
        | _ => exact hq.elim
    · exact h.elim
  | .exit id, fr, a, w, Q, hf, h => wp_exit ⟨Keeps.refl _ _, fr, hf, h⟩
  | .ret, fr, a, w, Q, hf, h => wp_ret ⟨fr, hf, h⟩
  | .rangeFunc _ _ _ _, _, _, _, _, _, h => h.elim
  | .scope _, _, _, _, _, _, h => h.elim
  | .label _, _, _, _, _, _, h => h.elim
  | .goto _, _, _, _, _, _, h => h.elim
  | .refuse _, _, _, _, _, _, h => h.elim

/-! Functions. -/
/-- What a function hands back. -/
structure resK (P : Program) (x : Value) (t : TypeId) (w : World) (K : Value → Prop) : Prop where
  h : ∃ v, (Instr.loadAt t x).run P w = .ok v w ∧ K v
def res1 (P : Program) (fr : Fr) (w : World) (r : ResultVar) (K : Value → Prop) : Prop :=
  match r with
  | .tmp t =>
    match fr.at t with
    | some v => K v
    | none => False
  | .cell p t =>
    match fr.at p with
    | some x => resK P x t w K
    | none => False
def vcRes (P : Program) (rs : List ResultVar) (R : Value → World → Prop) (fr : Fr) (w : World) : Prop :=
  match rs with
  | [] => R (.tuple #[]) w
  | [a] => res1 P fr w a fun v => R v w
  | [a, b] => res1 P fr w a fun v => res1 P fr w b fun x => R (.tuple #[v, x]) w
  | [a, b, c] => res1 P fr w a fun v => res1 P fr w b fun x => res1 P fr w c fun y => R (.tuple #[v, x, y]) w
  | _ => False
def start (args : List Value) (n : Nat) : Fr := args.map some ++ List.replicate (n - args.length) none
def vcFn (P : Program) (es : List Nat) (fn : Func) (args : List Value) (w : World) (R : Value → World → Prop) : Prop :=
  vc P es (fn.body.getD .skip) (start args fn.ntmps) w { normal := vcRes P fn.results.toList R, exit := fun _ _ _ => False, ret := vcRes P fn.results.toList R }
/-- What is asked of a call. -/
def Does (P : Program) (f : FuncId) (args : List Value) (w : World) (R : Value → World → Prop) : Prop :=
  Calls P f args.toArray w fun e w' => ∃ v, e = .returned v ∧ R v w'
def resSem (a : Act) : ResultVar → Sem Value
  | .tmp t => pure (a.tmps.getD t undef)
  | .cell p t => do loadVar t (← asAddr (a.tmps.getD p undef))
theorem res1_run {P : Program} {fr : Fr} {a : Act} {w : World} {r : ResultVar} {K : Value → Prop} (hf : Fits fr a) (h : res1 P fr w r K) : ∃ v, (resSem a r).run P w = .ok v w ∧ K v := by
  unfold res1 at h
  split at h
  · rename_i t
    split at h
    · rename_i v hv
      have e := hf.val t v hv
      exact ⟨v, by simp [resSem, e, pure, Sem.run], h⟩
    · exact h.elim
  · rename_i p t
    split at h
    · rename_i x hx
      have e := hf.val p x hx
      obtain ⟨v, hr, hk⟩ := h
      refine ⟨v, ?_, hk⟩
      rw [← hr]
      have e2 : a.tmps.getD p undef = x := by simp [e]
      simp only [resSem, e2, Instr.loadAt]
      cases x <;> try (simp [Instr.loadAt, Instr.sureAddr, Sem.run_bind, stuck, Sem.run, Result.andThen] at hr; done)
      case pointer q =>
        cases q with
        | none => simp [Instr.loadAt, Instr.sureAddr, Sem.run_bind, stuck, Sem.run, Result.andThen] at hr
        | some q => simp [asAddr, Instr.sureAddr]
    · exact h.elim
theorem vcRes_run {P : Program} {fn : Func} {R : Value → World → Prop} {fr : Fr} {a : Act} {w : World} (hf : Fits fr a) (h : vcRes P fn.results.toList R fr w) :
    ∃ v, (results fn a.tmps).run P w = .ok v w ∧ R v w := by
  have hres : ∀ rs : Array ResultVar, fn.results = rs → results fn a.tmps = (do let vs ← rs.mapM (resSem a); pure (if h : vs.size = 1 then vs[0] else .tuple vs)) := by
    intro rs hrs
    unfold results
    rw [hrs]
    congr 1
  unfold vcRes at h
  split at h
  · rename_i hr
    have hr' : fn.results = #[] := by simpa using hr
    exact ⟨_, results_none hr' _ _ _, h⟩
  · rename_i r1 hr
    have hr' : fn.results = #[r1] := Array.toList_inj.1 (by simpa using hr)
    obtain ⟨v1, h1, h⟩ := res1_run hf h
    refine ⟨v1, ?_, h⟩
    rw [hres _ hr']
    simp [Sem.run_bind, h1, Result.andThen]
  · rename_i r1 r2 hr
    have hr' : fn.results = #[r1, r2] := Array.toList_inj.1 (by simpa using hr)
    obtain ⟨v1, h1, h⟩ := res1_run hf h
    obtain ⟨v2, h2, h⟩ := res1_run hf h
    refine ⟨.tuple #[v1, v2], ?_, h⟩
    rw [hres _ hr']
    simp [Sem.run_bind, h1, h2, Result.andThen]
  · rename_i r1 r2 r3 hr
    have hr' : fn.results = #[r1, r2, r3] := Array.toList_inj.1 (by simpa using hr)
    obtain ⟨v1, h1, h⟩ := res1_run hf h
    obtain ⟨v2, h2, h⟩ := res1_run hf h
    obtain ⟨v3, h3, h⟩ := res1_run hf h
    refine ⟨.tuple #[v1, v2, v3], ?_, h⟩
    rw [hres _ hr']
    simp [Sem.run_bind, h1, h2, h3, Result.andThen]
  · exact h.elim
theorem at_start (args : List Value) (n i : Nat) (v : Value) (h : (start args n).at i = some v) : args[i]? = some v := by
  unfold start at h
  induction args generalizing i with
  | nil =>
    simp only [List.map_nil, List.nil_append] at h
    exfalso
    have : ∀ (m i : Nat), (Fr.at (List.replicate m none) i) = none := by
      intro m
      induction m with
      | zero => intro i; rfl
      | succ m ih => intro i; cases i with
        | zero => rfl
        | succ i => exact ih i
    rw [this] at h
    cases h
  | cons x r ih =>
    cases i with
    | zero => exact h
    | succ i =>
      have h' : Fr.at (List.map some r ++ List.replicate (n - (x :: r).length) none) i = some v := h
      have e : List.replicate (n - (x :: r).length) (none : Option Value) = List.replicate ((n - 1) - r.length) none := by
        congr 1; simp; omega
      rw [e] at h'
      have key : ∀ m, Fr.at (List.map some r ++ List.replicate (m - r.length) none) i = some v → r[i]? = some v := by
        intro m hm
        clear ih h h' e
        induction r generalizing i m with
        | nil =>
          exfalso
          have : ∀ (m i : Nat), (Fr.at (List.replicate m none) i) = none := by
            intro m
            induction m with
            | zero => intro i; rfl
            | succ m ih => intro i; cases i with
              | zero => rfl
              | succ i => exact ih i
          simp only [List.map_nil, List.nil_append] at hm
          rw [this] at hm
          cases hm
        | cons y s ihs =>
          cases i with
          | zero => exact hm
          | succ i =>
            have hm' : Fr.at (List.map some s ++ List.replicate (m - (y :: s).length) none) i = some v := hm
            have e : m - (y :: s).length = (m - 1) - s.length := by simp; omega
            rw [e] at hm'
            exact ihs i (m - 1) hm'
      simpa using key _ h'
theorem does_of_vc {P : Program} (es : List Nat) (hm : P.follows .mixedOrders = true) {f : FuncId} {fn : Func} {args : List Value} {w : World} {R : Value → World → Prop} (hf : P.funcs[f]? = some fn) (hb : fn.body.isSome = true)
    (hn : Nat.ble args.length fn.ntmps = true) (h : vcFn P es fn args w R) : Does P f args w R := by
  refine calls_of_wp (c := fn.body.getD .skip) hf (by cases hc : fn.body <;> simp_all) ?_
  have hfit : Fits (start args fn.ntmps) { tmps := args.toArray ++ Array.replicate (fn.ntmps - args.toArray.size) undef, defers := [] } := by
    refine ⟨by simp [start], fun i v hi => ?_, rfl⟩
    have h1 := at_start args _ i v hi
    have hlt : i < args.length := (List.getElem?_eq_some_iff.1 h1).1
    simp [Array.getElem?_append, hlt]
    exact (List.getElem?_eq_some_iff.1 h1).2
  refine Code.wp_mono (fun e a' w' hq => ?_) (vc_sound es hm _ _ _ w _ hfit h)
  have fin : ∀ fr', Fits fr' a' → vcRes P fn.results.toList R fr' w' → a'.defers = [] ∧ ∃ v, (results fn a'.tmps).run P w' = .ok v w' ∧ ∃ u, Ending.returned v = Ending.returned u ∧ R u w' := by
    intro fr' hf' hr
    obtain ⟨v, h1, h2⟩ := vcRes_run hf' hr
    exact ⟨hf'.defers, v, h1, v, rfl, h2⟩
  cases e with
  | normal => obtain ⟨_, fr', hf', hr⟩ := hq; exact fin fr' hf' hr
  | ret => obtain ⟨fr', hf', hr⟩ := hq; exact fin fr' hf' hr
  | exit id => obtain ⟨_, fr', hf', hr⟩ := hq; exact hr.elim
  | _ => exact hq.elim
end Go.V
