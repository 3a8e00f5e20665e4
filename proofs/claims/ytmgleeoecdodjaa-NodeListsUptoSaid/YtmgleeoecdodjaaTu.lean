/- What is lent of a database: its parts, each list with marks behind it. Conditions: lengths up to 2^30. -/
import Derived.Test.YtmgleeoecdodjaaTt
import Derived.Test.YtmgleeoecdodjaaV13
set_option linter.unusedVariables false
set_option linter.unusedSimpArgs false
set_option maxRecDepth 10000
namespace Go.Proofs.Ytmgleeoecdodjaa.Sh
open Go Go.V Go.RowKit

structure LSig (m : Mem) (cs : List Value) (x : DSig) : Prop where
  h : ∃ v, cs = x.pre ++ [v] ∧ LTexts m v x.to
def mkSg : List Value := zSig (-7)
abbrev LSigs (m : Mem) (v : Value) (l : List DSig) : Prop := LSl m 19 (LSig m) (fun _ => mkSg) v l
structure LMsg (m : Mem) (cs : List Value) (x : DMsg) : Prop where
  h : ∃ v, cs = x.pre ++ [v] ∧ LSigs m v x.sigs
def mkMg : List Value := [.int .i64 0, .int .i64 0, .int .u32 0, .bool false, .string ByteArray.empty, .int .i64 (-7), .string ByteArray.empty, .slice none 0 0]
abbrev LMsgs (m : Mem) (v : Value) (l : List DMsg) : Prop := LSl m 8 (LMsg m) (fun _ => mkMg) v l
structure LTab (m : Mem) (cs : List Value) (x : DTab) : Prop where
  h : ∃ v, cs = x.pre ++ [v] ∧ LRows m v x.rows
def spareT : ByteArray := ⟨#[115, 112, 97, 114, 101]⟩
def mkTb : List Value := [.int .i64 0, .int .i64 0, .int .u32 0, .bool false, .string spareT, .slice none 0 0]
abbrev LTabs (m : Mem) (v : Value) (l : List DTab) : Prop := LSl m 6 (LTab m) (fun _ => mkTb) v l
structure LDb (m : Mem) (v : Value) (x : DDb) : Prop where
  h : ∃ s ms ts, v = x.agg s ms ts ∧ LTexts m s x.sta.names ∧ LMsgs m ms x.msgs ∧ LTabs m ts x.tabs
abbrev MLe (M M' : Mem) : Prop := ∀ b o v, M b o = some v → M' b o = some v
theorem LSig.mono {M M' : Mem} {cs : List Value} {x : DSig} (hm : MLe M M') (h : LSig M cs x) : LSig M' cs x := by
  obtain ⟨v, rfl, h1⟩ := h.h; exact ⟨v, rfl, h1.mono hm⟩
theorem LMsg.mono {M M' : Mem} {cs : List Value} {x : DMsg} (hm : MLe M M') (h : LMsg M cs x) : LMsg M' cs x := by
  obtain ⟨v, rfl, h1⟩ := h.h; exact ⟨v, rfl, (h1.mono hm).imp fun _ _ h => LSig.mono hm h⟩
theorem LTab.mono {M M' : Mem} {cs : List Value} {x : DTab} (hm : MLe M M') (h : LTab M cs x) : LTab M' cs x := by
  obtain ⟨v, rfl, h1⟩ := h.h; exact ⟨v, rfl, h1.mono hm⟩
theorem bSg (w : World) : (Instr.build 119 #[(4, .int .i64 (-7))]).run Try.prog w = .ok (.agg mkSg.toArray) w := by kernel_rfl
theorem bMg (w : World) : (Instr.build 62 #[(4, .int .i64 (-7))]).run Try.prog w = .ok (.agg mkMg.toArray) w := by kernel_rfl
theorem bTb (w : World) : (Instr.build 79 #[(3, .string ⟨#[115, 112, 97, 114, 101]⟩)]).run Try.prog w = .ok (.agg mkTb.toArray) w := by kernel_rfl
theorem one_lsl {α : Type} {m : Mem} {sz : Nat} {R : List Value → α → Prop} {mark : Nat → List Value} {v : Value} {l : List α} (h : LSl m sz R mark v l) : v.oneCell' = true := by
  obtain ⟨b, c, rfl, _⟩ := h.h; rfl
theorem lendSignal {m : Mem} {v : Value} {x : DSig} {w : World} (hm : Sub m w) (hv : Texts m v x.to) (hn : x.to.length ≤ 1073741824) :
    Does Try.prog 80 [x.agg v] w (LentEl 19 LSig x w) := by
  refine D80 ?_
  unfold S80
  refine r_field1 (s1 := .nilIface) (Φ := fun v' M => v'.oneCell' = true ∧ LTexts M v' x.to) agg119 zero119 rfl size119 fld119_13 one26 size26 pl51 rfl rfl (one_snoc (one_sigpre x) (one_sl hv))
    (fun w1 e => (lendTexts (hm.ext e) hv hn).mono fun v' w' h => ⟨h.one, h.cells, h.made.ext, by obtain ⟨M, a, b, c⟩ := h.made.mem; exact ⟨M, a, b, h.one, c⟩⟩) fun v' w' h => ?_
  obtain ⟨M, a, b, o, c⟩ := h.mem
  exact ⟨_, rfl, rfl, one_snoc (one_sigpre x) o, h.ext, M, a, b, v', rfl, c⟩
theorem lendSignals {m : Mem} {v : Value} {xs : List DSig} {w : World} (hm : Sub m w) (hv : Sigs m v xs) (hn : xs.length ≤ 1073741824) (hto : ∀ s ∈ xs, s.to.length ≤ 1073741824) :
    Does Try.prog 74 [v] w (Lent (fun v M => LSigs M v xs) w) := by
  refine D74 ?_
  unfold S74
  simp only [JoinP.eq]
  refine r_lend (Rl := LSig) sl60 agg119 zero119 rfl pl80 rfl (one_zsig _) bSg hv hm hn (by decide) (fun w1 x cs e hx _ hR => ?_) (fun M M' cs x h h' => LSig.mono h h') (fun r w' h => h)
  obtain ⟨u, rfl, hu⟩ := hR.h
  exact lendSignal (hm.ext e) hu (hto x hx)
theorem lendMessage {m : Mem} {v : Value} {x : DMsg} {w : World} (hm : Sub m w) (hv : Sigs m v x.sigs) (hx : OkMsg x) :
    Does Try.prog 49 [x.agg v] w (LentEl 8 LMsg x w) := by
  refine D49 ?_
  unfold S49
  refine r_field1 (s1 := .nilIface) (Φ := fun v' M => v'.oneCell' = true ∧ LSigs M v' x.sigs) agg62 zero62 rfl size62 fld62_6 one60 size60 pl74 rfl rfl (one_snoc (one_msgpre x) (one_sl hv))
    (fun w1 e => (lendSignals (hm.ext e) hv hx.sigs hx.to).mono fun v' w' h => ⟨h.one, h.cells, h.made.ext, by obtain ⟨M, a, b, c⟩ := h.made.mem; exact ⟨M, a, b, h.one, c⟩⟩) fun v' w' h => ?_
  obtain ⟨M, a, b, o, c⟩ := h.mem
  exact ⟨_, rfl, rfl, one_snoc (one_msgpre x) o, h.ext, M, a, b, v', rfl, c⟩
theorem lendMessages {m : Mem} {v : Value} {xs : List DMsg} {w : World} (hm : Sub m w) (hv : Msgs m v xs) (hn : xs.length ≤ 1073741824) (hok : ∀ s ∈ xs, OkMsg s) :
    Does Try.prog 17 [v] w (Lent (fun v M => LMsgs M v xs) w) := by
  refine D17 ?_
  unfold S17
  simp only [JoinP.eq]
  refine r_lend (Rl := LMsg) sl29 agg62 zero62 rfl pl49 rfl (all_one rfl) bMg hv hm hn (by decide) (fun w1 x cs e hx _ hR => ?_) (fun M M' cs x h h' => LMsg.mono h h') (fun r w' h => h)
  obtain ⟨u, rfl, hu⟩ := hR.h
  exact lendMessage (hm.ext e) hu (hok x hx)
theorem lendTable {m : Mem} {v : Value} {x : DTab} {w : World} (hm : Sub m w) (hv : Rows m v x.rows) (hn : x.rows.length ≤ 1073741824) :
    Does Try.prog 50 [x.agg v] w (LentEl 6 LTab x w) := by
  refine D50 ?_
  unfold S50
  refine r_field1 (s1 := .nilIface) (Φ := fun v' M => v'.oneCell' = true ∧ LRows M v' x.rows) agg79 zero79 rfl size79 fld79_4 one77 size77 pl75 rfl rfl (one_snoc (one_tabpre x) (one_sl hv))
    (fun w1 e => (lendRows (hm.ext e) hv hn).mono fun v' w' h => ⟨h.one, h.cells, h.made.ext, by obtain ⟨M, a, b, c⟩ := h.made.mem; exact ⟨M, a, b, h.one, c⟩⟩) fun v' w' h => ?_
  obtain ⟨M, a, b, o, c⟩ := h.mem
  exact ⟨_, rfl, rfl, one_snoc (one_tabpre x) o, h.ext, M, a, b, v', rfl, c⟩
theorem lendTables {m : Mem} {v : Value} {xs : List DTab} {w : World} (hm : Sub m w) (hv : Tabs m v xs) (hn : xs.length ≤ 1073741824) (hok : ∀ s ∈ xs, s.rows.length ≤ 1073741824) :
    Does Try.prog 18 [v] w (Lent (fun v M => LTabs M v xs) w) := by
  refine D18 ?_
  unfold S18
  simp only [JoinP.eq]
  refine r_lend (Rl := LTab) sl30 agg79 zero79 rfl pl50 rfl (all_one rfl) bTb hv hm hn (by decide) (fun w1 x cs e hx _ hR => ?_) (fun M M' cs x h h' => LTab.mono h h') (fun r w' h => h)
  obtain ⟨u, rfl, hu⟩ := hR.h
  exact lendTable (hm.ext e) hu (hok x hx)
/-- Stations lent. -/
structure LentSta (x : DSta) (w : World) (r : Value) (w' : World) : Prop where
  h : ∃ v, r = x.agg v ∧ v.oneCell' = true ∧ Made w (fun M => LTexts M v x.names) w'
theorem lendStations {m : Mem} {v : Value} {x : DSta} {w : World} (hm : Sub m w) (hv : Texts m v x.names) (hn : x.names.length ≤ 1073741824) :
    Does Try.prog 19 [x.agg v] w (LentSta x w) := by
  refine D19 ?_
  unfold S19
  refine r_field1 (s1 := .nilIface) (Φ := fun v' M => v'.oneCell' = true ∧ LTexts M v' x.names) agg28 zero28 rfl size28 fld28_1 one26 size26 pl51 rfl rfl (one_snoc (one_stapre x) (one_sl hv))
    (fun w1 e => (lendTexts (hm.ext e) hv hn).mono fun v' w' h => ⟨h.one, h.cells, h.made.ext, by obtain ⟨M, a, b, c⟩ := h.made.mem; exact ⟨M, a, b, h.one, c⟩⟩) fun v' w' h => ?_
  obtain ⟨M, a, b, o, c⟩ := h.mem
  exact ⟨v', rfl, o, h.ext, M, a, b, c⟩
end Go.Proofs.Ytmgleeoecdodjaa.Sh
