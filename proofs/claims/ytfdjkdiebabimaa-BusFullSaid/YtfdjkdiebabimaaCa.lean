/- A row that may be full: a ring of frames. Conditions: room for at most 64. -/
import Derived.Test.YtfdjkdiebabimaaBz
set_option linter.unusedVariables false
set_option linter.unusedSimpArgs false
set_option maxRecDepth 10000
namespace Go.V
open Go.RowKit
variable {P : Program}
/-- No block of S is of the type e. -/
def NoT (w : World) (e : TypeId) (S : List Nat) : Prop := ∀ k ∈ S, ∀ l, ¬ Blk w k l e
theorem NoT.one {w : World} {e t b : Nat} {l : List Value} (h : Blk w b l t) (hne : t ≠ e) : NoT w e [b] := by
  intro k hk l' hb
  simp at hk; subst hk
  unfold Blk at h hb
  rw [h] at hb
  injection hb with hb
  injection hb with _ h2
  exact hne h2
theorem NoT.cons {w : World} {e t b : Nat} {l : List Value} {S : List Nat} (h : Blk w b l t) (hne : t ≠ e) (hs : NoT w e S) : NoT w e (b :: S) := by
  intro k hk l' hb
  rcases List.mem_cons.1 hk with rfl | hk
  · exact NoT.one h hne _ (by simp) _ hb
  · exact hs k hk l' hb
theorem NoT.nil (w : World) (e : TypeId) : NoT w e [] := fun k hk => by simp at hk
theorem Own.blk {w : World} {e sz n k : Nat} {v : Value} {xs : List Value} (h : Own w e sz v n xs) (hk : v.ownBlock = some k) : ∃ l, Blk w k l e := by
  rcases h.2 with ⟨rfl, _⟩ | ⟨g', cap, ys, rfl, _, _, _, h1⟩
  · simp [Value.ownBlock] at hk
  · simp [Value.ownBlock] at hk
    subst hk
    exact ⟨_, h1⟩
theorem Own.modT {S : List Nat} {w w' : World} {e sz n : Nat} {v : Value} {xs : List Value} (h : Own w e sz v n xs) (m : Mod S w w') (hn : NoT w e S) : Own w' e sz v n xs :=
  h.mod m fun k hk hs => by
    obtain ⟨l, hl⟩ := h.blk hk
    exact hn k hs l hl
theorem mod_lt2 {a i N : Nat} (h : a < N) (hi : i < N) : (a + i) % N = if a + i < N then a + i else a + i - N := by
  split
  · exact Nat.mod_eq_of_lt (by assumption)
  · rw [Nat.mod_eq_sub_mod (by omega), Nat.mod_eq_of_lt (by omega)]
theorem Blk.inj {w : World} {b t t' : Nat} {l l' : List Value} (h : Blk w b l t) (h' : Blk w b l' t') : l = l' ∧ t = t' := by
  unfold Blk at h h'
  rw [h] at h'
  injection h' with h'
  injection h' with h1 h2
  exact ⟨by simpa using h1, h2⟩
theorem Blk.ne {w : World} {b b' t t' : Nat} {l l' : List Value} (h : Blk w b l t) (h' : Blk w b' l' t') (hn : t ≠ t') : b ≠ b' := by
  rintro rfl
  exact hn (h.inj h').2
end Go.V
namespace Go.Proofs.Ytfdjkdiebabimaa.Sh
open Go Go.V Go.RowKit Go.Proofs.Ytfdjkdiebabimaa.Bp

abbrev Ent := DFr × Value
abbrev entC (x : Ent) : List Value := frC x.1 x.2
structure EntOk (w : World) (x : Ent) : Prop where
  own : OBytes w x.2 x.1.data
  inr : InR x.1
theorem EntOk.mod {w w' : World} {x : Ent} {S : List Nat} (h : EntOk w x) (m : Mod S w w') (hn : NoT w 5 S) : EntOk w' x := ⟨h.own.modT m hn, h.inr⟩
theorem ent_one {w : World} {x : Ent} (h : EntOk w x) : ∀ u ∈ entC x, u.oneCell' = true := by
  intro u hu
  obtain ⟨p', c', he, _⟩ := h.own.len
  simp [frC] at hu
  rcases hu with rfl | rfl | rfl
  · rfl
  · rfl
  · rw [he]; rfl
def qC (g N fr n : Nat) : List Value := [.slice (some ⟨g, 0, none⟩) N N, .int .i64 (fr : Int), .int .i64 (n : Int)]
/-- A ring at bq, its room at g. -/
structure QAt (w : World) (bq g N : Nat) (q : List DFr) : Prop where
  h : ∃ (ring : List Ent) (fr : Nat), ring.length = N ∧ fr < N ∧ q.length ≤ N ∧ Blk w g (ring.flatMap entC) 35 ∧ Blk w bq (qC g N fr q.length) 99 ∧
    ∀ i f, q[i]? = some f → ∃ v, ring[(fr + i) % N]? = some (f, v) ∧ EntOk w (f, v)
theorem QAt.len {w : World} {bq g N : Nat} {q : List DFr} (h : QAt w bq g N q) : q.length ≤ N := by
  obtain ⟨_, _, _, _, h, _⟩ := h.h; exact h
theorem QAt.noT {w : World} {bq g N : Nat} {q : List DFr} (h : QAt w bq g N q) {e : TypeId} (h1 : 35 ≠ e) (h2 : 99 ≠ e) : NoT w e [bq, g] := by
  obtain ⟨_, _, _, _, _, hg, hq, _⟩ := h.h
  exact .cons hq h2 (.cons hg h1 (.nil _ _))
theorem QAt.lt {w : World} {bq g N : Nat} {q : List DFr} (h : QAt w bq g N q) : bq < w.heap.size ∧ g < w.heap.size := by
  obtain ⟨_, _, _, _, _, hg, hq, _⟩ := h.h
  exact ⟨hq.lt, hg.lt⟩
theorem QAt.mod {w w' : World} {bq g N : Nat} {q : List DFr} {S : List Nat} (h : QAt w bq g N q) (m : Mod S w w') (hn : NoT w 5 S) (h1 : bq ∉ S) (h2 : g ∉ S) : QAt w' bq g N q := by
  obtain ⟨ring, fr, a, b, c, hg, hq, hh⟩ := h.h
  exact ⟨ring, fr, a, b, c, hg.mod m h2, hq.mod m h1, fun i f hi => by
    obtain ⟨v, h3, h4⟩ := hh i f hi
    exact ⟨v, h3, h4.mod m hn⟩⟩
theorem QAt.ext {w w' : World} {bq g N : Nat} {q : List DFr} (h : QAt w bq g N q) (e : Ext w w') : QAt w' bq g N q := h.mod (S := []) (Mod.ext e) (.nil _ _) (by simp) (by simp)
theorem tmod_nat (a b : Nat) : (a : Int).tmod (b : Int) = ((a % b : Nat) : Int) := rfl
theorem qat {w : World} {bq g N fr n i : Nat} (hq : Blk w bq (qC g N fr n) 99) (hf : fr < N) (hN : N ≤ 64) (hi : i ≤ 64) :
    Does Try.prog 42 [.pointer (some ⟨bq, 0, none⟩), .int .i64 (i : Int)] w fun r w' => Ext w w' ∧ r = .int .i64 (((fr + i) % N : Nat) : Int) := by
  refine D42 ?_
  unfold S42
  intro w1 e1
  have b1 := hq.ext e1
  rw [Pure.runQ p_nil, Pure.runQ (p_field (o := 0) fld99_1), ld1Q b1 one3 (o := 0 + 1) rfl, add_q, wrap64_id (by omega) (by omega), Pure.runQ p_nil, Pure.runQ (p_field (o := 0) fld99_0), ld1Q b1 one97 (o := 0 + 0) rfl, Pure.runQ (p_len sl97.slice), Pure.runQ (p_rem' (by omega))]
  refine ⟨e1, ?_⟩
  rw [show ((fr : Int) + (i : Int)) = ((fr + i : Nat) : Int) by omega, tmod_nat]
def pushQ (N : Nat) (q : List DFr) (f : DFr) : List DFr := if q.length = N then q else q ++ [f]
structure PushR (bq g N : Nat) (q : List DFr) (f : DFr) (w : World) (r : Value) (w' : World) : Prop where
  mod : Mod [bq, g] w w'
  val : r = if q.length = N then errno 24 else .nilIface
  qa : QAt w' bq g N (pushQ N q f)
theorem push {w : World} {bq g N : Nat} {q : List DFr} {f : DFr} {dv : Value} (hq : QAt w bq g N q) (h1 : 1 ≤ N) (hN : N ≤ 64) (ho : EntOk w (f, dv)) :
    Does Try.prog 28 [.pointer (some ⟨bq, 0, none⟩), frA f dv] w (PushR bq g N q f w) := by
  obtain ⟨ring, fr, hrl, hfr, hql, hg, hb, hh⟩ := hq.h
  refine D28 ?_
  unfold S28
  refine r_box fun w1 e1 z1 bf => ?_
  have bf : Blk w1 w.heap.size (frC f dv) 35 := bf
  intro w2 e2
  have e02 := e1.trans e2
  have b2 := hb.ext e02
  rw [Pure.runQ p_nil, Pure.runQ (p_field (o := 0) fld99_2), ld1Q b2 one3 (o := 0 + 2) rfl, Pure.runQ p_nil, Pure.runQ (p_field (o := 0) fld99_0), ld1Q b2 one97 (o := 0 + 0) rfl, Pure.runQ (p_len sl97.slice), eql_q, natdec]
  by_cases hfull : q.length = N
  · rw [decide_eq_true hfull, CondP.tt, Pure.run (i_err _)]
    refine ⟨Mod.ext e02, by rw [if_pos hfull], ?_⟩
    unfold pushQ; rw [if_pos hfull]; exact hq.ext e02
  · rw [decide_eq_false hfull, CondP.ff]
    intro w3 e3
    have e03 := e02.trans e3
    have b3 := hb.ext e03
    rw [Pure.runQ p_nil, Pure.runQ (p_field (o := 0) fld99_0), ld1Q b3 one97 (o := 0 + 0) rfl, Pure.runQ p_nil, Pure.runQ (p_field (o := 0) fld99_2), ld1Q b3 one3 (o := 0 + 2) rfl]
    refine GoN.does pl42 (qat b3 hfr hN (i := q.length) (by omega)) ?_
    rintro _ w4 ⟨e4, rfl⟩
    refine ⟨e4, ?_⟩
    have hj : (fr + q.length) % N < N := Nat.mod_lt _ (by omega)
    have bf3 : Blk w3 w.heap.size (frC f dv) 35 := bf.ext (e2.trans e3)
    rw [ldNQ bf3 agg35 (o := 0) rfl, Pure.runQ (pIdx0 (e := 35) (sz := 3) sl97.slice size35 hj)]
    have e04 := e03.trans e4
    have g4 := hg.ext e04
    have hes : ∀ y ∈ ring, (entC y).length = 3 := fun _ _ => rfl
    refine r_store size35 (l := frC f dv) rfl rfl (ent_one ho) g4 (by rw [flat_len entC 3 ring hes]; omega) fun w5 c5 g5 => ?_
    have hsp := splice_flat entC 3 ring ((fr + q.length) % N) (f, dv) hes rfl (by omega)
    rw [hsp] at g5
    have b4 := hb.ext e04
    have hne : bq ≠ g := hb.ne hg (by decide)
    have b5 := b4.chg c5 hne
    rw [nil_r, Pure.run (p_field (o := 0) fld99_2), ld1 b5 one3 (o := 0 + 2) rfl, add_r, succ64 (by omega), nil_r, Pure.run (p_field (o := 0) fld99_2)]
    refine r_store size3 (l := [.int .i64 ((q.length + 1 : Nat) : Int)]) rfl rfl (all_one rfl) b5 (show 0 + 2 + 1 ≤ 3 by decide) fun w6 c6 b6 => ?_
    have b6 : Blk w6 bq (qC g N fr (q.length + 1)) 99 := b6
    have m6 : Mod [bq, g] w w6 := ((Mod.ext e04).trans (Mod.chg c5 (by simp))).trans (Mod.chg c6 (by simp))
    have hnt : NoT w 5 [bq, g] := hq.noT (by decide) (by decide)
    refine ⟨m6, by rw [if_neg hfull], ?_⟩
    unfold pushQ; rw [if_neg hfull]
    refine ⟨ring.set ((fr + q.length) % N) (f, dv), fr, by simpa using hrl, hfr, by simp; omega, g5.chg c6 hne.symm, by rw [List.length_append]; exact b6, ?_⟩
    intro i f' hi
    have hil : i < q.length + 1 := by have := (List.getElem?_eq_some_iff.1 hi).1; simpa using this
    by_cases hiq : i = q.length
    · subst hiq
      simp at hi; subst hi
      exact ⟨dv, by rw [List.getElem?_set_self (by omega)], ho.mod m6 hnt⟩
    · have hi' : q[i]? = some f' := by rw [List.getElem?_append_left (by omega)] at hi; exact hi
      obtain ⟨v, h3, h4⟩ := hh i f' hi'
      refine ⟨v, ?_, h4.mod m6 hnt⟩
      rw [List.getElem?_set_ne, h3]
      rw [mod_lt2 hfr (by omega), mod_lt2 hfr (by omega)]
      split <;> split <;> omega
theorem nil_ent (w : World) : EntOk w (DFr.zero, .slice none 0 0) := ⟨Own.nil _ _ _, ⟨by decide, by simp [DFr.zero], by simp [DFr.zero]⟩⟩
structure PeekR (q : List DFr) (w : World) (r : Value) (w' : World) : Prop where
  ext : Ext w w'
  val : match q with
    | [] => r = .tuple #[frA DFr.zero (.slice none 0 0), .bool false]
    | f :: _ => ∃ v, r = .tuple #[frA f v, .bool true] ∧ EntOk w' (f, v)
theorem peek {w : World} {bq g N : Nat} {q : List DFr} (hq : QAt w bq g N q) (hN : N ≤ 64) :
    Does Try.prog 44 [.pointer (some ⟨bq, 0, none⟩)] w (PeekR q w) := by
  obtain ⟨ring, fr, hrl, hfr, hql, hg, hb, hh⟩ := hq.h
  refine D44 ?_
  unfold S44
  refine r_alloc zero35 fun w1 e1 z1 bf => ?_
  have b1 := hb.ext e1
  rw [nil_r, Pure.run (p_field (o := 0) fld99_2), ld1 b1 one3 (o := 0 + 2) rfl, eql_r, natdec0]
  cases q with
  | nil =>
    rw [List.length_nil, decide_eq_true rfl, CondP.tt]
    refine r_alloc zero35 fun w2 e2 z2 b2 => ?_
    rw [ldN b2 agg35 (o := 0) rfl]
    refine r_store size35 (l := frC DFr.zero (.slice none 0 0)) rfl rfl (all_one rfl) (bf.ext e2) (show 0 + 3 ≤ 3 by decide) fun w3 c3 b3 => ?_
    exact k_loadN agg35 (l := frC DFr.zero (.slice none 0 0)) rfl b3.at ⟨(e1.trans e2).chg c3 (Nat.le_refl _), rfl⟩
  | cons f q =>
    rw [List.length_cons, decide_eq_false (by omega), CondP.ff]
    intro w2 e2
    have e02 := e1.trans e2
    have b2 := hb.ext e02
    obtain ⟨v, h3, h4⟩ := hh 0 f rfl
    rw [Nat.add_zero, Nat.mod_eq_of_lt hfr] at h3
    have hes : ∀ y ∈ ring, (entC y).length = 3 := fun _ _ => rfl
    rw [Pure.runQ p_nil, Pure.runQ (p_field (o := 0) fld99_0), ld1Q b2 one97 (o := 0 + 0) rfl, Pure.runQ p_nil, Pure.runQ (p_field (o := 0) fld99_1), ld1Q b2 one3 (o := 0 + 1) rfl, Pure.runQ (pIdx0 (e := 35) (sz := 3) sl97.slice size35 hfr)]
    refine q_loadN agg35 (l := entC (f, v)) rfl ?_ ?_
    · intro j u hj
      have hj3 : j < 3 := by have := (List.getElem?_eq_some_iff.1 hj).1; simpa [frC] using this
      have := flat_get entC 3 ring fr j (f, v) u hes h3 hj
      exact (hg.ext e02).get this
    · refine r_store size35 (l := frC f v) rfl rfl (ent_one h4) (bf.ext e2) (show 0 + 3 ≤ 3 by decide) fun w3 c3 b3 => ?_
      have b3 : Blk w3 w.heap.size (frC f v) 35 := b3
      have x3 := e02.chg c3 (Nat.le_refl _)
      exact k_loadN agg35 (l := frC f v) rfl b3.at ⟨x3, v, rfl, h4.mod (Mod.ext (S := []) x3) (.nil _ _)⟩
abbrev PopV (q : List DFr) (w' : World) (r : Value) : Prop := match q with
  | [] => r = .tuple #[frA DFr.zero (.slice none 0 0), errno 25]
  | f :: _ => ∃ v, r = .tuple #[frA f v, .nilIface] ∧ EntOk w' (f, v)
structure PopR (bq g N : Nat) (q : List DFr) (w : World) (r : Value) (w' : World) : Prop where
  mod : Mod [bq, g] w w'
  qa : QAt w' bq g N q.tail
  val : PopV q w' r
theorem pop {w : World} {bq g N : Nat} {q : List DFr} (hq : QAt w bq g N q) (hN : N ≤ 64) :
    Does Try.prog 34 [.pointer (some ⟨bq, 0, none⟩)] w (PopR bq g N q w) := by
  refine D34 ?_
  unfold S34
  refine r_alloc zero35 fun w1 e1 z1 b1 => ?_
  refine r_alloc zero35 fun w2 e2 z2 b2 => ?_
  refine GoN.does pl44 (peek (hq.ext (e1.trans e2)) hN) ?_
  rintro r w3 ⟨e3, hr⟩
  have e03 := (e1.trans e2).trans e3
  cases q with
  | nil =>
    subst hr
    rw [Pure.run (x2_0 _ _), Pure.run (x2_1 _ _)]
    refine r_alloc zero35 fun w4 e4 z4 b4 => ?_
    refine r_store size35 (l := frC DFr.zero (.slice none 0 0)) rfl rfl (all_one rfl) b4 (show 0 + 3 ≤ 3 by decide) fun w5 c5 b5 => ?_
    have x35 : Ext w3 w5 := e4.chg c5 (Nat.le_refl _)
    rw [not_r, Bool.not_false, CondP.tt, ldN ((b2.ext e3).ext x35) agg35 (o := 0) rfl, Pure.run (i_err _)]
    refine r_store size35 (l := frC DFr.zero (.slice none 0 0)) rfl rfl (all_one rfl) (((b1.ext e2).ext e3).ext x35) (show 0 + 3 ≤ 3 by decide) fun w6 c6 b6 => ?_
    have x6 : Ext w w6 := (e03.trans x35).chg c6 (Nat.le_refl _)
    exact k_loadN agg35 (l := frC DFr.zero (.slice none 0 0)) rfl b6.at ⟨Mod.ext x6, hq.ext x6, rfl⟩
  | cons f q =>
    obtain ⟨v, rfl, hv⟩ := hr
    rw [Pure.run (x2_0 _ _), Pure.run (x2_1 _ _)]
    refine r_alloc zero35 fun w4 e4 z4 b4 => ?_
    refine r_store size35 (l := frC f v) rfl rfl (ent_one hv) b4 (show 0 + 3 ≤ 3 by decide) fun w5 c5 b5 => ?_
    have b5 : Blk w5 w3.heap.size (frC f v) 35 := b5
    have x35 : Ext w3 w5 := e4.chg c5 (Nat.le_refl _)
    rw [not_r, Bool.not_true, CondP.ff]
    intro w6 e6
    have e06 := (e03.trans x35).trans e6
    obtain ⟨ring, fr, hrl, hfr, hql, hg, hb, hh⟩ := hq.h
    have hb6 := hb.ext e06
    have hg6 := hg.ext e06
    have b26 := ((b2.ext e3).ext x35).ext e6
    rw [Pure.runQ p_nil, Pure.runQ (p_field (o := 0) fld99_0), ld1Q hb6 one97 (o := 0 + 0) rfl, Pure.runQ p_nil, Pure.runQ (p_field (o := 0) fld99_1), ld1Q hb6 one3 (o := 0 + 1) rfl, ldNQ b26 agg35 (o := 0) rfl, Pure.runQ (pIdx0 (e := 35) (sz := 3) sl97.slice size35 hfr)]
    have hes : ∀ y ∈ ring, (entC y).length = 3 := fun _ _ => rfl
    refine r_store size35 (l := frC DFr.zero (.slice none 0 0)) rfl rfl (all_one rfl) hg6 (by rw [flat_len entC 3 ring hes]; omega) fun w7 c7 g7 => ?_
    have hsp := splice_flat entC 3 ring fr (DFr.zero, .slice none 0 0) hes rfl (by omega)
    rw [hsp] at g7
    have hne : bq ≠ g := hb.ne hg (by decide)
    have hb7 := hb6.chg c7 hne
    refine GoN.does pl42 (qat hb7 hfr hN (i := 1) (by omega)) ?_
    rintro _ w8 ⟨e8, rfl⟩
    have hb8 := hb7.ext e8
    rw [nil_r, Pure.run (p_field (o := 0) fld99_1)]
    refine r_store size3 (l := [.int .i64 (((fr + 1) % N : Nat) : Int)]) rfl rfl (all_one rfl) hb8 (show 0 + 1 + 1 ≤ 3 by decide) fun w9 c9 hb9 => ?_
    have hb9 : Blk w9 bq (qC g N ((fr + 1) % N) (f :: q).length) 99 := hb9
    rw [nil_r, Pure.run (p_field (o := 0) fld99_2), ld1 hb9 one3 (o := 0 + 2) rfl, sub_r, nil_r, Pure.run (p_field (o := 0) fld99_2)]
    have hlen : (f :: q).length = q.length + 1 := rfl
    rw [hlen, wrap64_id (by omega) (by omega), show (((q.length + 1 : Nat) : Int) - 1) = (q.length : Int) by omega]
    refine r_store size3 (l := [.int .i64 (q.length : Int)]) rfl rfl (all_one rfl) hb9 (show 0 + 2 + 1 ≤ 3 by decide) fun w10 c10 hb10 => ?_
    have hb10 : Blk w10 bq (qC g N ((fr + 1) % N) q.length) 99 := hb10
    have m610 : Mod [bq, g] w6 w10 := (((Mod.chg c7 (by simp)).trans (Mod.ext e8)).trans (Mod.chg c9 (by simp))).trans (Mod.chg c10 (by simp))
    have hlt := hq.lt
    have ne1 : w3.heap.size ∉ [bq, g] := by have := e03.size; simp; omega
    have ne2 : w.heap.size ∉ [bq, g] := by simp; omega
    have b510 := (b5.ext e6).mod m610 ne1
    rw [ldN b510 agg35 (o := 0) rfl]
    have b110 := ((((b1.ext e2).ext e3).ext x35).ext e6).mod m610 ne2
    refine r_store size35 (l := frC f v) rfl rfl (ent_one hv) b110 (show 0 + 3 ≤ 3 by decide) fun w11 c11 b11 => ?_
    have b11 : Blk w11 w.heap.size (frC f v) 35 := b11
    have m11 : Mod [bq, g] w w11 := by
      refine ((Mod.ext e06).trans m610).newS (T := [w.heap.size]) (Mod.one c11) (by simp)
    have hnt : NoT w 5 [bq, g] := hq.noT (by decide) (by decide)
    have hnt6 : NoT w6 5 [bq, g] := .cons hb6 (by decide) (.cons hg6 (by decide) (.nil _ _))
    have m11' : Mod [bq, g, w.heap.size] w6 w11 := (m610.mono (by simp)).trans (Mod.chg c11 (by simp))
    refine k_loadN agg35 (l := frC f v) rfl b11.at ⟨m11, ⟨ring.set fr (DFr.zero, .slice none 0 0), (fr + 1) % N, by simpa using hrl, Nat.mod_lt _ (by omega), by simp at hql ⊢; omega, ?_, ?_, ?_⟩, v, rfl, ?_⟩
    · have : Blk w10 g _ _ := ((g7.ext e8).chg c9 hne.symm).chg c10 hne.symm
      exact this.chg c11 (by omega)
    · exact hb10.chg c11 (by omega)
    · intro i f' hi
      have hi' : (f :: q)[i + 1]? = some f' := by simpa using hi
      obtain ⟨v', h3, h4⟩ := hh (i + 1) f' hi'
      have hil : i + 1 < (f :: q).length := (List.getElem?_eq_some_iff.1 hi').1
      refine ⟨v', ?_, h4.mod m11 hnt⟩
      rw [Nat.mod_add_mod, show fr + 1 + i = fr + (i + 1) by omega, List.getElem?_set_ne, h3]
      rw [mod_lt2 hfr (by omega)]
      split <;> omega
    · have hv6 := (hv.mod (Mod.ext (S := []) x35) (.nil _ _)).mod (Mod.ext (S := []) e6) (.nil _ _)
      refine hv6.mod m11' ?_
      have b16 := (((b1.ext e2).ext e3).ext x35).ext e6
      exact .cons hb6 (by decide) (.cons hg6 (by decide) (.one b16 (by decide)))
theorem qlen {w : World} {bq g N : Nat} {q : List DFr} (hq : QAt w bq g N q) :
    Does Try.prog 39 [.pointer (some ⟨bq, 0, none⟩)] w fun r w' => w' = w ∧ r = .int .i64 (q.length : Int) := by
  obtain ⟨ring, fr, hrl, hfr, hql, hg, hb, hh⟩ := hq.h
  refine D39 ?_
  unfold S39
  rw [nil_r, Pure.run (p_field (o := 0) fld99_2), ld1 hb one3 (o := 0 + 2) rfl]
  exact ⟨rfl, rfl⟩
end Go.Proofs.Ytfdjkdiebabimaa.Sh
