/- What the bus does, plainly; stations reached; frames sent and taken. Conditions: lengths up to 2^30. -/
import Derived.Test.YtfdjkdiebabimaaCd
set_option linter.unusedVariables false
set_option linter.unusedSimpArgs false
set_option maxRecDepth 10000
namespace Go.Proofs.Ytfdjkdiebabimaa.Sh
open Go Go.V Go.RowKit Go.Proofs.Ytfdjkdiebabimaa.Bp

def inc (c : Int) : Int := IntKind.i64.wrap (c + 1)
def there? (n : Int) (ss : List PS) : Bool := decide (0 ≤ n ∧ n < (ss.length : Int))
/-- Send: the error's number, 0 for none; the stations behind it. -/
def sendP (N : Nat) (ss : List PS) (n : Int) (f : DFr) : Int × List PS :=
  if there? n ss then
    if encErr f ≠ 0 then (encErr f, ss) else
    match ss[n.toNat]? with
    | some s => (if s.out.length = N then 24 else 0, ss.set n.toNat { s with out := pushQ N s.out f })
    | none => (1, ss)
  else (1, ss)
/-- Take: the frame, or the error's number. -/
def takeP (ss : List PS) (n : Int) : (Int ⊕ DFr) × List PS :=
  if there? n ss then
    match ss[n.toNat]? with
    | some s => (match s.inn with | [] => .inl 25 | f :: _ => .inr f, ss.set n.toNat { s with inn := s.inn.tail })
    | none => (.inl 1, ss)
  else (.inl 1, ss)
theorem there_get {n : Int} {ss : List PS} (h : there? n ss = true) : 0 ≤ n ∧ n.toNat < ss.length := by
  unfold there? at h
  have := of_decide_eq_true h
  omega
/-- One station turns. -/
theorem BusAt.upd {w w' : World} {b N i : Nat} {gs : List SG} {ss : List PS} {lt : List DLate} {a : SG} {s' : PS} {S : List Nat} (h : BusAt w b N gs ss lt) (ha : gs[i]? = some a) (hi : i < ss.length) (m : Mod S w w') (hS : ∀ k ∈ S, k ∈ a.blocks) (hs : StAt w' N a s') :
    BusAt w' b N gs (ss.set i s') lt ∧ Mod (foot b gs) w w' := by
  have h0 := h.st i a ss[i] ha (by simp)
  have hnt : ∀ e, 35 ≠ e → 99 ≠ e → 81 ≠ e → NoT w e S := fun e h1 h2 h3 => (h0.noT h1 h2 h3).mono hS
  obtain ⟨sv, lv, hb, hsv, hl⟩ := h.blk
  refine ⟨⟨⟨sv, lv, hb.mod m (fun hk => ?_), hsv.modT m (hnt _ (by decide) (by decide) (by decide)), hl.modT m (hnt _ (by decide) (by decide) (by decide)) (hnt _ (by decide) (by decide) (by decide))⟩, by simp [h.len], fun j a' s ha' hs' => ?_, h.apart⟩, m.mono fun k hk => mem_foot ha (hS k hk)⟩
  · exact hnt 74 (by decide) (by decide) (by decide) _ hk _ hb
  · by_cases hij : i = j
    · subst hij
      rw [ha] at ha'
      injection ha' with ha'
      subst ha'
      rw [List.getElem?_set_self hi] at hs'
      injection hs' with hs'
      subst hs'
      exact hs
    · rw [List.getElem?_set_ne hij] at hs'
      exact (h.st j a' s ha' hs').mod m (hnt _ (by decide) (by decide) (by decide)) (hnt _ (by decide) (by decide) (by decide)) fun k hk hk' => h.apart i j a a' hij ha ha' k (hS k hk') hk
theorem r_st {w : World} {sv : Value} {gs : List SG} {i : Nat} {n : Int} {a : SG} {K : Value → World → Prop} (hs : Own w 78 1 sv gs.length (gs.map fun a => ptr a.st)) (ha : gs[i]? = some a) (hn : n = (i : Int)) (k : K (ptr a.st) w) :
    Run Try.prog (Instr.indexAt 71 sv (.int .i64 n)) w fun t w1 => Run Try.prog (Instr.loadAt 78 t) w1 K := by
  subst hn
  have hi := (List.getElem?_eq_some_iff.1 ha).1
  obtain ⟨g, c, rfl, hc⟩ := own_at hs (u := ptr a.st) (i := i) (by rw [List.getElem?_map, ha]; rfl)
  rw [Pure.run (pIdx0 (e := 78) (sz := 1) sl71.slice size78 hi), Nat.mul_one]
  exact r_load1 one78 hc k
theorem g_st {sv : Value} {gs : List SG} {i : Nat} {n : Int} {a : SG} {E : World → Prop} {w : World} {K : Value → Prop} (hE : ∀ w', E w' → Own w' 78 1 sv gs.length (gs.map fun a => ptr a.st)) (hw : E w) (ha : gs[i]? = some a) (hn : n = (i : Int)) (k : K (ptr a.st)) :
    RunG Try.prog (Instr.indexAt 71 sv (.int .i64 n)) E fun t => RunG Try.prog (Instr.loadAt 78 t) E K := by
  subst hn
  have hi := (List.getElem?_eq_some_iff.1 ha).1
  have hx : (gs.map fun a => ptr a.st)[i]? = some (ptr a.st) := by rw [List.getElem?_map, ha]; rfl
  obtain ⟨g, c, rfl, hc⟩ := own_at (hE w hw) hx
  refine Pure.g (pIdx0 (e := 78) (sz := 1) sl71.slice size78 hi) ?_
  rw [Nat.mul_one]
  refine ldG one78 (fun w' hw' => ?_) k
  obtain ⟨g', c', he, hc'⟩ := own_at (hE w' hw') hx
  injection he with he
  injection he with he
  injection he with he
  subst he
  exact hc'
theorem errV_ne {n : Int} (h : n ≠ 0) : errV n = errno n := by unfold errV; rw [if_neg h]
theorem errV_0 : errV 0 = .nilIface := by unfold errV; rw [if_pos rfl]
structure SendR (b N : Nat) (gs : List SG) (ss : List PS) (lt : List DLate) (n : Int) (f : DFr) (w : World) (r : Value) (w' : World) : Prop where
  mod : Mod (foot b gs) w w'
  bus : BusAt w' b N gs (sendP N ss n f).2 lt
  val : r = errV (sendP N ss n f).1
theorem send {m : Mem} {v : Value} {w : World} {b N : Nat} {gs : List SG} {ss : List PS} {lt : List DLate} {n : Int} {f : DFr} (h : BusAt w b N gs ss lt) (h1 : 1 ≤ N) (h64 : N ≤ 64) (hm : Sub m w) (hv : Bytes m v f.data) (hr : InR f) :
    Does Try.prog 10 [ptr b, .int .i64 n, frA f v] w (SendR b N gs ss lt n f w) := by
  obtain ⟨p, c, rfl, hc⟩ := hv.form
  refine D10 ?_
  unfold S10
  refine r_box fun w1 e1 z1 b1 => ?_
  have b1 : Blk w1 w.heap.size (frC f (.slice p f.data.length c)) 35 := b1
  refine GoN.does pl27 (there (h.ext e1)) ?_
  rintro _ w2 ⟨rfl, rfl⟩
  rw [not_r, show decide (0 ≤ n ∧ n < (ss.length : Int)) = there? n ss from rfl]
  cases ht : there? n ss with
  | false =>
    rw [Bool.not_false, CondP.tt, Pure.run (i_err _)]
    have hP : sendP N ss n f = (1, ss) := by unfold sendP; rw [ht]; rfl
    exact ⟨Mod.ext e1, by rw [hP]; exact h.ext e1, by rw [hP]; rfl⟩
  | true =>
    obtain ⟨hn0, hnl⟩ := there_get ht
    rw [Bool.not_true, CondP.ff]
    show Run _ _ _ _
    rw [ldN b1 agg35 (o := 0) rfl]
    refine GoN.does pl17 (encode (hm.ext e1) hv hr) ?_
    rintro _ w3 ⟨e3, u, rfl⟩
    have e13 := e1.trans e3
    rw [Pure.run (x2_0 _ _), Pure.run (x2_1 _ _)]
    by_cases hen : encErr f = 0
    · rw [hen, errV_0, Pure.run (e_nilnil _), CondP.ff]
      intro w4 e4
      have e04 := e13.trans e4
      obtain ⟨a, ha, hst⟩ := h.get hnl
      obtain ⟨rv, hbs, hrr, hrl⟩ := hst.h
      obtain ⟨sv, lv, hb, hsv, hl⟩ := h.blk
      have hP : sendP N ss n f = (if ss[n.toNat].out.length = N then 24 else 0, ss.set n.toNat { ss[n.toNat] with out := pushQ N ss[n.toNat].out f }) := by
        unfold sendP
        rw [ht, if_pos rfl, if_neg (by rw [hen]; simp), List.getElem?_eq_getElem hnl]
      have b14 := (b1.ext e3).ext e4
      refine ⟨fun w' => Blk w' b [sv, lv] 74 ∧ Own w' 78 1 sv gs.length (gs.map fun a => ptr a.st) ∧ Blk w' a.st (stC a rv ss[n.toNat]) 81 ∧ Blk w' w.heap.size (frC f (.slice p f.data.length c)) 35, ⟨hb.ext e04, hsv.ext e04, hbs.ext e04, b14⟩, ?_⟩
      refine Pure.g p_nil (Pure.g (p_field (o := 0) fld74_0) (ldG one71 (v := sv) (fun w' hk => hk.1.get rfl) ?_))
      refine g_st (w := w4) (fun w' hk => hk.2.1) ⟨hb.ext e04, hsv.ext e04, hbs.ext e04, b14⟩ ha (by omega) ?_
      refine Pure.g p_nil (Pure.g (p_field (o := 0) fld81_0) (ldG one75 (v := ptr a.oq) (fun w' hk => hk.2.2.1.get rfl) ?_))
      refine ⟨frA f (.slice p f.data.length c), fun w' hk => ?_, ?_⟩
      · have := run_loadN agg35 (l := frC f (.slice p f.data.length c)) rfl hk.2.2.2.at
        exact this
      refine GoN.does pl29 (ownF (hm.ext e04) hv hr) ?_
      rintro _ w5 ⟨e5, v', rfl, hok, hlow⟩
      have e05 := e04.trans e5
      have h5 := h.ext e05
      have st5 := hst.ext e05
      refine ⟨⟨hb.ext e05, hsv.ext e05, hbs.ext e05, b14.ext e5⟩, ?_⟩
      refine GoN.does pl28 (push st5.o h1 h64 hok) ?_
      rintro r w6 ⟨m6, rfl, hq6⟩
      have hS : ∀ k ∈ [a.oq, a.og], k ∈ a.blocks := by intro k hk; simp at hk; simp [SG.blocks]; try omega
      have hSnt : ∀ e, 35 ≠ e → 99 ≠ e → NoT w5 e [a.oq, a.og] := fun e x y => st5.o.noT x y
      have hbs5 := hbs.ext e05
      have hbs6 : Blk w6 a.st (stC a rv ss[n.toNat]) 81 := hbs5.mod m6 fun hk => hSnt 81 (by decide) (by decide) _ hk _ hbs5
      obtain ⟨r1, q1, _, _, _, og5, oq5, _⟩ := st5.o.h
      obtain ⟨r2, q2, _, _, _, ig5, iq5, _⟩ := st5.i.h
      have hn1 := hst.n1
      have hn2 := hst.n2
      have st6 : StAt w6 N a { ss[n.toNat] with out := pushQ N ss[n.toNat].out f } := ⟨⟨rv, hbs6, (hrr.modT (Mod.ext (S := []) e05) (.nil _ _)).modT m6 (hSnt _ (by decide) (by decide)), hrl⟩, hq6, st5.i.mod m6 (hSnt _ (by decide) (by decide)) (by
          have := iq5.ne og5 (by decide)
          simp; omega) (by
          have := ig5.ne oq5 (by decide)
          simp; omega), hn1, hn2⟩
      obtain ⟨h6, mf⟩ := h5.upd ha hnl m6 hS st6
      obtain ⟨sv', lv', hb', hsv', _⟩ := h6.blk
      have hb5 := hb.ext e05
      have hb6 : Blk w6 b [sv, lv] 74 := hb5.mod m6 fun hk => hSnt 74 (by decide) (by decide) _ hk _ hb5
      refine ⟨⟨hb6, (hsv.ext e05).modT m6 (hSnt _ (by decide) (by decide)), hbs6, ?_⟩, ?_⟩
      · refine (b14.ext e5).mod m6 ?_
        have := st5.o.lt
        have h00 := hst.o.lt
        simp; omega
      · refine ⟨(Mod.ext e05).trans mf, by rw [hP]; exact h6, ?_⟩
        rw [hP]
        by_cases hf : ss[n.toNat].out.length = N
        · rw [if_pos hf]; simp only [if_pos hf]; rfl
        · rw [if_neg hf]; simp only [if_neg hf]; rfl
    · rw [errV_ne hen]
      unfold errno
      rw [Pure.run (e_nil _ _ _ _), CondP.tt]
      have hP : sendP N ss n f = (encErr f, ss) := by unfold sendP; rw [ht, if_pos rfl, if_pos hen]
      exact ⟨Mod.ext e13, by rw [hP]; exact h.ext e13, by rw [hP]; exact (errV_ne hen).symm⟩
structure TakeBR (b N : Nat) (gs : List SG) (ss : List PS) (lt : List DLate) (n : Int) (w : World) (r : Value) (w' : World) : Prop where
  mod : Mod (foot b gs) w w'
  bus : BusAt w' b N gs (takeP ss n).2 lt
  val : match (takeP ss n).1 with
    | .inl e => r = .tuple #[frA DFr.zero (.slice none 0 0), errno e]
    | .inr f => ∃ v, r = .tuple #[frA f v, .nilIface] ∧ EntOk w' (f, v)
theorem takeB {w : World} {b N : Nat} {gs : List SG} {ss : List PS} {lt : List DLate} {n : Int} (h : BusAt w b N gs ss lt) (h64 : N ≤ 64) :
    Does Try.prog 14 [ptr b, .int .i64 n] w (TakeBR b N gs ss lt n w) := by
  refine D14 ?_
  unfold S14
  refine r_alloc zero35 fun w1 e1 z1 b1 => ?_
  refine GoN.does pl27 (there (h.ext e1)) ?_
  rintro _ w2 ⟨rfl, rfl⟩
  rw [not_r, show decide (0 ≤ n ∧ n < (ss.length : Int)) = there? n ss from rfl]
  cases ht : there? n ss with
  | false =>
    rw [Bool.not_false, CondP.tt, Pure.run bFr0, Pure.run (i_err _)]
    have hP : takeP ss n = (.inl 1, ss) := by unfold takeP; rw [ht]; rfl
    refine r_store size35 (l := frC DFr.zero (.slice none 0 0)) rfl rfl (all_one rfl) b1 (show 0 + 3 ≤ 3 by decide) fun w3 c3 b3 => ?_
    have x := e1.chg c3 (Nat.le_refl _)
    exact k_loadN agg35 (l := frC DFr.zero (.slice none 0 0)) rfl b3.at ⟨Mod.ext x, by rw [hP]; exact h.ext x, by rw [hP]⟩
  | true =>
    obtain ⟨hn0, hnl⟩ := there_get ht
    rw [Bool.not_true, CondP.ff]
    show Run _ _ _ _
    obtain ⟨a, ha, hst⟩ := h.get hnl
    obtain ⟨rv, hbs, hrr, hrl⟩ := hst.h
    obtain ⟨sv, lv, hb, hsv, hl⟩ := h.blk
    rw [nil_r, Pure.run (p_field (o := 0) fld74_0), ld1 (hb.ext e1) one71 (o := 0 + 0) rfl]
    refine r_st (hsv.ext e1) ha (by omega) ?_
    rw [nil_r, Pure.run (p_field (o := 0) fld81_1), ld1 (hbs.ext e1) one75 (o := 0 + 1) rfl]
    have st1 := hst.ext e1
    have h1 := h.ext e1
    refine GoN.does pl34 (pop st1.i h64) ?_
    rintro r w3 ⟨m3, hq3, hval⟩
    have hS : ∀ k ∈ [a.iq, a.ig], k ∈ a.blocks := by intro k hk; simp at hk; simp [SG.blocks]; try omega
    have hSnt : ∀ e, 35 ≠ e → 99 ≠ e → NoT w2 e [a.iq, a.ig] := fun e x y => st1.i.noT x y
    have hbs1 := hbs.ext e1
    have hbs3 : Blk w3 a.st (stC a rv ss[n.toNat]) 81 := hbs1.mod m3 fun hk => hSnt 81 (by decide) (by decide) _ hk _ hbs1
    obtain ⟨r1, q1, _, _, _, og5, oq5, _⟩ := st1.o.h
    obtain ⟨r2, q2, _, _, _, ig5, iq5, _⟩ := st1.i.h
    have hn1 := hst.n1
    have hn2 := hst.n2
    have st3 : StAt w3 N a { ss[n.toNat] with inn := ss[n.toNat].inn.tail } := ⟨⟨rv, hbs3, (hrr.modT (Mod.ext (S := []) e1) (.nil _ _)).modT m3 (hSnt _ (by decide) (by decide)), hrl⟩, st1.o.mod m3 (hSnt _ (by decide) (by decide)) (by
          have := oq5.ne ig5 (by decide)
          simp; omega) (by
          have := og5.ne iq5 (by decide)
          simp; omega), hq3, hn1, hn2⟩
    obtain ⟨h3, mf⟩ := h1.upd ha hnl m3 hS st3
    have hP : takeP ss n = (match ss[n.toNat].inn with | [] => .inl 25 | f :: _ => .inr f, ss.set n.toNat { ss[n.toNat] with inn := ss[n.toNat].inn.tail }) := by
      unfold takeP
      rw [ht, if_pos rfl, List.getElem?_eq_getElem hnl]
    have b13 : Blk w3 w.heap.size _ _ := b1.mod m3 (by have := hst.i.lt; simp; omega)
    have modF : ∀ {w4 : World}, Chg w.heap.size w3 w4 → Mod (foot b gs) w w4 := fun c4 => ((Mod.ext e1).trans mf).newS (T := [w.heap.size]) (Mod.one c4) (by simp)
    have busF : ∀ {w4 : World}, Chg w.heap.size w3 w4 → BusAt w4 b N gs (ss.set n.toNat { ss[n.toNat] with inn := ss[n.toNat].inn.tail }) lt := fun c4 => by
      refine h3.mod (Mod.one c4) (fun k hk hk' => ?_) (.one b13 (by decide)) (.one b13 (by decide)) (.one b13 (by decide)) (.one b13 (by decide)) (.one b13 (by decide))
      have := h.lt k hk
      simp at hk'; omega
    cases hi : ss[n.toNat].inn with
    | nil =>
      rw [hi] at hval
      subst hval
      rw [Pure.run (x2_0 _ _), Pure.run (x2_1 _ _)]
      refine r_store size35 (l := frC DFr.zero (.slice none 0 0)) rfl rfl (all_one rfl) b13 (show 0 + 3 ≤ 3 by decide) fun w4 c4 b4 => ?_
      refine k_loadN agg35 (l := frC DFr.zero (.slice none 0 0)) rfl b4.at ⟨modF c4, by rw [hP]; exact busF c4, ?_⟩
      rw [hP]; simp only [hi]
    | cons f q =>
      rw [hi] at hval
      obtain ⟨v, rfl, hv⟩ := hval
      rw [Pure.run (x2_0 _ _), Pure.run (x2_1 _ _)]
      refine r_store size35 (l := frC f v) rfl rfl (ent_one hv) b13 (show 0 + 3 ≤ 3 by decide) fun w4 c4 b4 => ?_
      have b4 : Blk w4 w.heap.size (frC f v) 35 := b4
      refine k_loadN agg35 (l := frC f v) rfl b4.at ⟨modF c4, by rw [hP]; exact busF c4, ?_⟩
      rw [hP]; simp only [hi]
      exact ⟨v, rfl, hv.mod (Mod.one c4) (.one b13 (by decide))⟩
end Go.Proofs.Ytfdjkdiebabimaa.Sh
