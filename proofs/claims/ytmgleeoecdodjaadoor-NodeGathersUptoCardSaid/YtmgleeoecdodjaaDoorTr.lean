/- How a database is read from memory by the row's own reading. Conditions: none. -/
import Derived.Test.YtmgleeoecdodjaaDoorTq
set_option linter.unusedVariables false
set_option linter.unusedSimpArgs false
set_option maxRecDepth 10000
namespace Go.Proofs.YtmgleeoecdodjaaDoor.Sh
open Go Go.V Go.RowKit
variable {H : Type} {enc : TypeId × Value → H} {W : World} {base : Nat} {spare : Nat → Bool} {held : Bool}
theorem ruPlc : Tryd.prog.underlying 23 = some (.struct (Tryd.prog.fieldsOf 23)) := by kernel_rfl
theorem rcPlc : Tryd.prog.cellsOf 23 = 2 := by kernel_rfl
theorem ruRat : Tryd.prog.underlying 128 = some (.struct (Tryd.prog.fieldsOf 128)) := by kernel_rfl
theorem rcRat : Tryd.prog.cellsOf 128 = 2 := by kernel_rfl
theorem ruRow : Tryd.prog.underlying 133 = some (.struct (Tryd.prog.fieldsOf 133)) := by kernel_rfl
theorem rcRow : Tryd.prog.cellsOf 133 = 2 := by kernel_rfl
theorem ruSig : Tryd.prog.underlying 130 = some (.struct (Tryd.prog.fieldsOf 130)) := by kernel_rfl
theorem rcSig : Tryd.prog.cellsOf 130 = 19 := by kernel_rfl
theorem ruMsg : Tryd.prog.underlying 77 = some (.struct (Tryd.prog.fieldsOf 77)) := by kernel_rfl
theorem rcMsg : Tryd.prog.cellsOf 77 = 8 := by kernel_rfl
theorem ruTab : Tryd.prog.underlying 81 = some (.struct (Tryd.prog.fieldsOf 81)) := by kernel_rfl
theorem rcTab : Tryd.prog.cellsOf 81 = 6 := by kernel_rfl
theorem ruVer : Tryd.prog.underlying 25 = some (.struct (Tryd.prog.fieldsOf 25)) := by kernel_rfl
theorem rcVer : Tryd.prog.cellsOf 25 = 3 := by kernel_rfl
theorem ruSta : Tryd.prog.underlying 28 = some (.struct (Tryd.prog.fieldsOf 28)) := by kernel_rfl
theorem rcSta : Tryd.prog.cellsOf 28 = 3 := by kernel_rfl
theorem ruDb : Tryd.prog.underlying 32 = some (.struct (Tryd.prog.fieldsOf 32)) := by kernel_rfl
theorem rcDb : Tryd.prog.cellsOf 32 = 9 := by kernel_rfl
theorem rcI : Tryd.prog.cellsOf 3 = 1 := by kernel_rfl
theorem rcL : Tryd.prog.cellsOf 2 = 1 := by kernel_rfl
theorem rcS : Tryd.prog.cellsOf 9 = 1 := by kernel_rfl
theorem rcB : Tryd.prog.cellsOf 4 = 1 := by kernel_rfl
theorem rcU : Tryd.prog.cellsOf 126 = 1 := by kernel_rfl
theorem rcW : Tryd.prog.cellsOf 74 = 1 := by kernel_rfl
theorem rcTs : Tryd.prog.cellsOf 26 = 1 := by kernel_rfl
theorem rcGs : Tryd.prog.cellsOf 75 = 1 := by kernel_rfl
theorem rcRs : Tryd.prog.cellsOf 79 = 1 := by kernel_rfl
theorem rcMs : Tryd.prog.cellsOf 29 = 1 := by kernel_rfl
theorem rcBs : Tryd.prog.cellsOf 30 = 1 := by kernel_rfl
theorem len2 {cs : List Value} (h : cs.length = 2) : ∃ a0 a1, cs = [a0, a1] := by
  match cs, h with
  | [a0, a1], _ => exact ⟨a0, a1, rfl⟩
theorem len3 {cs : List Value} (h : cs.length = 3) : ∃ a0 a1 a2, cs = [a0, a1, a2] := by
  match cs, h with
  | [a0, a1, a2], _ => exact ⟨a0, a1, a2, rfl⟩
theorem len6 {cs : List Value} (h : cs.length = 6) : ∃ a0 a1 a2 a3 a4 a5, cs = [a0, a1, a2, a3, a4, a5] := by
  match cs, h with
  | [a0, a1, a2, a3, a4, a5], _ => exact ⟨a0, a1, a2, a3, a4, a5, rfl⟩
theorem len8 {cs : List Value} (h : cs.length = 8) : ∃ a0 a1 a2 a3 a4 a5 a6 a7, cs = [a0, a1, a2, a3, a4, a5, a6, a7] := by
  match cs, h with
  | [a0, a1, a2, a3, a4, a5, a6, a7], _ => exact ⟨a0, a1, a2, a3, a4, a5, a6, a7, rfl⟩
theorem len9 {cs : List Value} (h : cs.length = 9) : ∃ a0 a1 a2 a3 a4 a5 a6 a7 a8, cs = [a0, a1, a2, a3, a4, a5, a6, a7, a8] := by
  match cs, h with
  | [a0, a1, a2, a3, a4, a5, a6, a7, a8], _ => exact ⟨a0, a1, a2, a3, a4, a5, a6, a7, a8, rfl⟩
theorem len19 {cs : List Value} (h : cs.length = 19) : ∃ a0 a1 a2 a3 a4 a5 a6 a7 a8 a9 a10 a11 a12 a13 a14 a15 a16 a17 a18, cs = [a0, a1, a2, a3, a4, a5, a6, a7, a8, a9, a10, a11, a12, a13, a14, a15, a16, a17, a18] := by
  match cs, h with
  | [a0, a1, a2, a3, a4, a5, a6, a7, a8, a9, a10, a11, a12, a13, a14, a15, a16, a17, a18], _ => exact ⟨a0, a1, a2, a3, a4, a5, a6, a7, a8, a9, a10, a11, a12, a13, a14, a15, a16, a17, a18, rfl⟩
theorem rdPlc {fuel : Nat} {cs : List Value} {x : DataW H × List MemPlace} (h : DataW.trod enc Tryd.prog W base spare held fuel 23 cs = some x) : ∃ p q, cs = [.int .i64 p, .int .i64 q] := by
  obtain ⟨a0, a1, rfl⟩ := len2 (st_len ruPlc rcPlc h)
  obtain ⟨n0, y0, h0, k0⟩ := st_field (i := 0) (ft := 3) (off := 0) ruPlc (by kernel_rfl) rcI h
  simp only [List.drop_zero, List.drop_succ_cons, List.take_succ_cons, List.take_zero] at h0
  obtain ⟨v0, rfl⟩ := rdInt Tryd.underlying3 h0
  obtain ⟨n1, y1, h1, k1⟩ := st_field (i := 1) (ft := 3) (off := 1) ruPlc (by kernel_rfl) rcI h
  simp only [List.drop_zero, List.drop_succ_cons, List.take_succ_cons, List.take_zero] at h1
  obtain ⟨v1, rfl⟩ := rdInt Tryd.underlying3 h1
  exact ⟨_, _, rfl⟩
theorem rdRat {fuel : Nat} {cs : List Value} {x : DataW H × List MemPlace} (h : DataW.trod enc Tryd.prog W base spare held fuel 128 cs = some x) : ∃ p q, cs = [.int .i64 p, .int .i64 q] := by
  obtain ⟨a0, a1, rfl⟩ := len2 (st_len ruRat rcRat h)
  obtain ⟨n0, y0, h0, k0⟩ := st_field (i := 0) (ft := 2) (off := 0) ruRat (by kernel_rfl) rcL h
  simp only [List.drop_zero, List.drop_succ_cons, List.take_succ_cons, List.take_zero] at h0
  obtain ⟨v0, rfl⟩ := rdInt Tryd.underlying2 h0
  obtain ⟨n1, y1, h1, k1⟩ := st_field (i := 1) (ft := 2) (off := 1) ruRat (by kernel_rfl) rcL h
  simp only [List.drop_zero, List.drop_succ_cons, List.take_succ_cons, List.take_zero] at h1
  obtain ⟨v1, rfl⟩ := rdInt Tryd.underlying2 h1
  exact ⟨_, _, rfl⟩
theorem rdRow {fuel : Nat} {cs : List Value} {x : DataW H × List MemPlace} (h : DataW.trod enc Tryd.prog W base spare held fuel 133 cs = some x) : ∃ a : DRow, RRow cs a ∧ True := by
  obtain ⟨a0, a1, rfl⟩ := len2 (st_len ruRow rcRow h)
  obtain ⟨n0, y0, h0, k0⟩ := st_field (i := 0) (ft := 2) (off := 0) ruRow (by kernel_rfl) rcL h
  simp only [List.drop_zero, List.drop_succ_cons, List.take_succ_cons, List.take_zero] at h0
  obtain ⟨v0, rfl⟩ := rdInt Tryd.underlying2 h0
  obtain ⟨n1, y1, h1, k1⟩ := st_field (i := 1) (ft := 9) (off := 1) ruRow (by kernel_rfl) rcS h
  simp only [List.drop_zero, List.drop_succ_cons, List.take_succ_cons, List.take_zero] at h1
  obtain ⟨v1, rfl⟩ := rdStr Tryd.underlying9 h1
  exact ⟨⟨v0, v1⟩, rfl, trivial⟩
theorem rdTexts {fuel : Nat} {v : Value} {x : DataW H × List MemPlace} (h : DataW.trod enc Tryd.prog W base spare held fuel 26 [v] = some x) : ∃ l : List ByteArray, Texts (memW W) v l ∧ l.length ≤ Rows.uptoBulk x.1 := by
  obtain ⟨q, h1, h2, h3⟩ := rdSlice (R := RTxt) (Q := fun _ _ => True) sl26.slice rcS (by decide) (fun n cs x hx => by
    obtain ⟨s, h1, _⟩ := DataW.trod_string Tryd.underlying9 hx
    exact ⟨s, h1, trivial⟩) (d := x.1) (ps := x.2) h
  refine ⟨_, h1, ?_⟩
  have := sum_len (l := q.map (·.2)) (fun a ha => by obtain ⟨p, hp, rfl⟩ := List.mem_map.1 ha; exact (h2 p hp).2)
  simp only [List.length_map] at this ⊢
  omega
theorem rdRows {fuel : Nat} {v : Value} {x : DataW H × List MemPlace} (h : DataW.trod enc Tryd.prog W base spare held fuel 79 [v] = some x) : ∃ l : List DRow, Rows (memW W) v l ∧ l.length ≤ Rows.uptoBulk x.1 := by
  obtain ⟨q, h1, h2, h3⟩ := rdSlice (R := RRow) (Q := fun _ _ => True) sl79.slice rcRow (by decide) (fun n cs x hx => rdRow hx) (d := x.1) (ps := x.2) h
  refine ⟨_, h1, ?_⟩
  have := sum_len (l := q.map (·.2)) (fun a ha => by obtain ⟨p, hp, rfl⟩ := List.mem_map.1 ha; exact (h2 p hp).2)
  simp only [List.length_map] at this ⊢
  omega
theorem rdSig {fuel : Nat} {cs : List Value} {x : DataW H × List MemPlace} (h : DataW.trod enc Tryd.prog W base spare held fuel 130 cs = some x) : ∃ a : DSig, RSig (memW W) cs a ∧ a.to.length ≤ Rows.uptoBulk x.1 := by
  obtain ⟨a0, a1, a2, a3, a4, a5, a6, a7, a8, a9, a10, a11, a12, a13, a14, a15, a16, a17, a18, rfl⟩ := len19 (st_len ruSig rcSig h)
  obtain ⟨n0, y0, h0, k0⟩ := st_field (i := 0) (ft := 23) (off := 0) ruSig (by kernel_rfl) rcPlc h
  simp only [List.drop_zero, List.drop_succ_cons, List.take_succ_cons, List.take_zero] at h0
  obtain ⟨v0, v1, hp0⟩ := rdPlc h0
  injection hp0 with hq0 hp0
  injection hp0 with hr0 _
  subst hq0; subst hr0
  obtain ⟨n1, y1, h1, k1⟩ := st_field (i := 1) (ft := 9) (off := 2) ruSig (by kernel_rfl) rcS h
  simp only [List.drop_zero, List.drop_succ_cons, List.take_succ_cons, List.take_zero] at h1
  obtain ⟨v2, rfl⟩ := rdStr Tryd.underlying9 h1
  obtain ⟨n2, y2, h2, k2⟩ := st_field (i := 2) (ft := 3) (off := 3) ruSig (by kernel_rfl) rcI h
  simp only [List.drop_zero, List.drop_succ_cons, List.take_succ_cons, List.take_zero] at h2
  obtain ⟨v3, rfl⟩ := rdInt Tryd.underlying3 h2
  obtain ⟨n3, y3, h3, k3⟩ := st_field (i := 3) (ft := 126) (off := 4) ruSig (by kernel_rfl) rcU h
  simp only [List.drop_zero, List.drop_succ_cons, List.take_succ_cons, List.take_zero] at h3
  obtain ⟨v4, rfl⟩ := rdInt Tryd.underlying126 h3
  obtain ⟨n4, y4, h4, k4⟩ := st_field (i := 4) (ft := 3) (off := 5) ruSig (by kernel_rfl) rcI h
  simp only [List.drop_zero, List.drop_succ_cons, List.take_succ_cons, List.take_zero] at h4
  obtain ⟨v5, rfl⟩ := rdInt Tryd.underlying3 h4
  obtain ⟨n5, y5, h5, k5⟩ := st_field (i := 5) (ft := 3) (off := 6) ruSig (by kernel_rfl) rcI h
  simp only [List.drop_zero, List.drop_succ_cons, List.take_succ_cons, List.take_zero] at h5
  obtain ⟨v6, rfl⟩ := rdInt Tryd.underlying3 h5
  obtain ⟨n6, y6, h6, k6⟩ := st_field (i := 6) (ft := 4) (off := 7) ruSig (by kernel_rfl) rcB h
  simp only [List.drop_zero, List.drop_succ_cons, List.take_succ_cons, List.take_zero] at h6
  obtain ⟨v7, rfl⟩ := rdBool Tryd.underlying4 h6
  obtain ⟨n7, y7, h7, k7⟩ := st_field (i := 7) (ft := 4) (off := 8) ruSig (by kernel_rfl) rcB h
  simp only [List.drop_zero, List.drop_succ_cons, List.take_succ_cons, List.take_zero] at h7
  obtain ⟨v8, rfl⟩ := rdBool Tryd.underlying4 h7
  obtain ⟨n8, y8, h8, k8⟩ := st_field (i := 8) (ft := 128) (off := 9) ruSig (by kernel_rfl) rcRat h
  simp only [List.drop_zero, List.drop_succ_cons, List.take_succ_cons, List.take_zero] at h8
  obtain ⟨v9, v10, hp8⟩ := rdRat h8
  injection hp8 with hq8 hp8
  injection hp8 with hr8 _
  subst hq8; subst hr8
  obtain ⟨n9, y9, h9, k9⟩ := st_field (i := 9) (ft := 128) (off := 11) ruSig (by kernel_rfl) rcRat h
  simp only [List.drop_zero, List.drop_succ_cons, List.take_succ_cons, List.take_zero] at h9
  obtain ⟨v11, v12, hp9⟩ := rdRat h9
  injection hp9 with hq9 hp9
  injection hp9 with hr9 _
  subst hq9; subst hr9
  obtain ⟨n10, y10, h10, k10⟩ := st_field (i := 10) (ft := 128) (off := 13) ruSig (by kernel_rfl) rcRat h
  simp only [List.drop_zero, List.drop_succ_cons, List.take_succ_cons, List.take_zero] at h10
  obtain ⟨v13, v14, hp10⟩ := rdRat h10
  injection hp10 with hq10 hp10
  injection hp10 with hr10 _
  subst hq10; subst hr10
  obtain ⟨n11, y11, h11, k11⟩ := st_field (i := 11) (ft := 128) (off := 15) ruSig (by kernel_rfl) rcRat h
  simp only [List.drop_zero, List.drop_succ_cons, List.take_succ_cons, List.take_zero] at h11
  obtain ⟨v15, v16, hp11⟩ := rdRat h11
  injection hp11 with hq11 hp11
  injection hp11 with hr11 _
  subst hq11; subst hr11
  obtain ⟨n12, y12, h12, k12⟩ := st_field (i := 12) (ft := 9) (off := 17) ruSig (by kernel_rfl) rcS h
  simp only [List.drop_zero, List.drop_succ_cons, List.take_succ_cons, List.take_zero] at h12
  obtain ⟨v17, rfl⟩ := rdStr Tryd.underlying9 h12
  obtain ⟨n13, y13, h13, k13⟩ := st_field (i := 13) (ft := 26) (off := 18) ruSig (by kernel_rfl) rcTs h
  simp only [List.drop_zero, List.drop_succ_cons, List.take_succ_cons, List.take_zero] at h13
  obtain ⟨to, ht, hl⟩ := rdTexts h13
  exact ⟨⟨v0, v1, v2, v3, v4, v5, v6, v7, v8, v9, v10, v11, v12, v13, v14, v15, v16, v17, to⟩, ⟨a18, rfl, ht⟩, Nat.le_trans hl (by omega)⟩
theorem rdSigs {fuel : Nat} {v : Value} {x : DataW H × List MemPlace} (h : DataW.trod enc Tryd.prog W base spare held fuel 75 [v] = some x) : ∃ l : List DSig, Sigs (memW W) v l ∧ l.length ≤ Rows.uptoBulk x.1 ∧ ∀ s ∈ l, s.to.length ≤ Rows.uptoBulk x.1 := by
  obtain ⟨q, h1, h2, h3⟩ := rdSlice (R := RSig (memW W)) (Q := fun a n => a.to.length ≤ n) sl75.slice rcSig (by decide) (fun n cs x hx => rdSig hx) (d := x.1) (ps := x.2) h
  have := sum_len (l := q.map (·.2)) (fun a ha => by obtain ⟨p, hp, rfl⟩ := List.mem_map.1 ha; exact (h2 p hp).2)
  simp only [List.length_map] at this
  refine ⟨_, h1, by simp only [List.length_map]; omega, fun s hs => ?_⟩
  obtain ⟨p, hp, rfl⟩ := List.mem_map.1 hs
  have h4 := (h2 p hp).1
  have h5 := sum_mem (List.mem_map.2 ⟨p, hp, rfl⟩ : p.2 ∈ q.map (·.2))
  omega
theorem rdMsg {fuel : Nat} {cs : List Value} {x : DataW H × List MemPlace} (h : DataW.trod enc Tryd.prog W base spare held fuel 77 cs = some x) : ∃ a : DMsg, RMsg (memW W) cs a ∧ (a.sigs.length ≤ Rows.uptoBulk x.1 ∧ ∀ s ∈ a.sigs, s.to.length ≤ Rows.uptoBulk x.1) := by
  obtain ⟨a0, a1, a2, a3, a4, a5, a6, a7, rfl⟩ := len8 (st_len ruMsg rcMsg h)
  obtain ⟨n0, y0, h0, k0⟩ := st_field (i := 0) (ft := 23) (off := 0) ruMsg (by kernel_rfl) rcPlc h
  simp only [List.drop_zero, List.drop_succ_cons, List.take_succ_cons, List.take_zero] at h0
  obtain ⟨v0, v1, hp0⟩ := rdPlc h0
  injection hp0 with hq0 hp0
  injection hp0 with hr0 _
  subst hq0; subst hr0
  obtain ⟨n1, y1, h1, k1⟩ := st_field (i := 1) (ft := 74) (off := 2) ruMsg (by kernel_rfl) rcW h
  simp only [List.drop_zero, List.drop_succ_cons, List.take_succ_cons, List.take_zero] at h1
  obtain ⟨v2, rfl⟩ := rdInt Tryd.underlying74 h1
  obtain ⟨n2, y2, h2, k2⟩ := st_field (i := 2) (ft := 4) (off := 3) ruMsg (by kernel_rfl) rcB h
  simp only [List.drop_zero, List.drop_succ_cons, List.take_succ_cons, List.take_zero] at h2
  obtain ⟨v3, rfl⟩ := rdBool Tryd.underlying4 h2
  obtain ⟨n3, y3, h3, k3⟩ := st_field (i := 3) (ft := 9) (off := 4) ruMsg (by kernel_rfl) rcS h
  simp only [List.drop_zero, List.drop_succ_cons, List.take_succ_cons, List.take_zero] at h3
  obtain ⟨v4, rfl⟩ := rdStr Tryd.underlying9 h3
  obtain ⟨n4, y4, h4, k4⟩ := st_field (i := 4) (ft := 3) (off := 5) ruMsg (by kernel_rfl) rcI h
  simp only [List.drop_zero, List.drop_succ_cons, List.take_succ_cons, List.take_zero] at h4
  obtain ⟨v5, rfl⟩ := rdInt Tryd.underlying3 h4
  obtain ⟨n5, y5, h5, k5⟩ := st_field (i := 5) (ft := 9) (off := 6) ruMsg (by kernel_rfl) rcS h
  simp only [List.drop_zero, List.drop_succ_cons, List.take_succ_cons, List.take_zero] at h5
  obtain ⟨v6, rfl⟩ := rdStr Tryd.underlying9 h5
  obtain ⟨n6, y6, h6, k6⟩ := st_field (i := 6) (ft := 75) (off := 7) ruMsg (by kernel_rfl) rcGs h
  simp only [List.drop_zero, List.drop_succ_cons, List.take_succ_cons, List.take_zero] at h6
  obtain ⟨l, ht, hl, hl2⟩ := rdSigs h6
  exact ⟨⟨v0, v1, v2, v3, v4, v5, v6, l⟩, ⟨a7, rfl, ht⟩, Nat.le_trans hl (by omega), fun s hs => Nat.le_trans (hl2 s hs) (by omega)⟩
theorem rdTab {fuel : Nat} {cs : List Value} {x : DataW H × List MemPlace} (h : DataW.trod enc Tryd.prog W base spare held fuel 81 cs = some x) : ∃ a : DTab, RTab (memW W) cs a ∧ a.rows.length ≤ Rows.uptoBulk x.1 := by
  obtain ⟨a0, a1, a2, a3, a4, a5, rfl⟩ := len6 (st_len ruTab rcTab h)
  obtain ⟨n0, y0, h0, k0⟩ := st_field (i := 0) (ft := 23) (off := 0) ruTab (by kernel_rfl) rcPlc h
  simp only [List.drop_zero, List.drop_succ_cons, List.take_succ_cons, List.take_zero] at h0
  obtain ⟨v0, v1, hp0⟩ := rdPlc h0
  injection hp0 with hq0 hp0
  injection hp0 with hr0 _
  subst hq0; subst hr0
  obtain ⟨n1, y1, h1, k1⟩ := st_field (i := 1) (ft := 74) (off := 2) ruTab (by kernel_rfl) rcW h
  simp only [List.drop_zero, List.drop_succ_cons, List.take_succ_cons, List.take_zero] at h1
  obtain ⟨v2, rfl⟩ := rdInt Tryd.underlying74 h1
  obtain ⟨n2, y2, h2, k2⟩ := st_field (i := 2) (ft := 4) (off := 3) ruTab (by kernel_rfl) rcB h
  simp only [List.drop_zero, List.drop_succ_cons, List.take_succ_cons, List.take_zero] at h2
  obtain ⟨v3, rfl⟩ := rdBool Tryd.underlying4 h2
  obtain ⟨n3, y3, h3, k3⟩ := st_field (i := 3) (ft := 9) (off := 4) ruTab (by kernel_rfl) rcS h
  simp only [List.drop_zero, List.drop_succ_cons, List.take_succ_cons, List.take_zero] at h3
  obtain ⟨v4, rfl⟩ := rdStr Tryd.underlying9 h3
  obtain ⟨n4, y4, h4, k4⟩ := st_field (i := 4) (ft := 79) (off := 5) ruTab (by kernel_rfl) rcRs h
  simp only [List.drop_zero, List.drop_succ_cons, List.take_succ_cons, List.take_zero] at h4
  obtain ⟨l, ht, hl⟩ := rdRows h4
  exact ⟨⟨v0, v1, v2, v3, v4, l⟩, ⟨a5, rfl, ht⟩, Nat.le_trans hl (by omega)⟩
theorem rdVer {fuel : Nat} {cs : List Value} {x : DataW H × List MemPlace} (h : DataW.trod enc Tryd.prog W base spare held fuel 25 cs = some x) : ∃ a : DVer, cs = a.cells := by
  obtain ⟨a0, a1, a2, rfl⟩ := len3 (st_len ruVer rcVer h)
  obtain ⟨n0, y0, h0, k0⟩ := st_field (i := 0) (ft := 23) (off := 0) ruVer (by kernel_rfl) rcPlc h
  simp only [List.drop_zero, List.drop_succ_cons, List.take_succ_cons, List.take_zero] at h0
  obtain ⟨v0, v1, hp0⟩ := rdPlc h0
  injection hp0 with hq0 hp0
  injection hp0 with hr0 _
  subst hq0; subst hr0
  obtain ⟨n1, y1, h1, k1⟩ := st_field (i := 1) (ft := 9) (off := 2) ruVer (by kernel_rfl) rcS h
  simp only [List.drop_zero, List.drop_succ_cons, List.take_succ_cons, List.take_zero] at h1
  obtain ⟨v2, rfl⟩ := rdStr Tryd.underlying9 h1
  exact ⟨⟨v0, v1, v2⟩, rfl⟩
theorem rdSta {fuel : Nat} {cs : List Value} {x : DataW H × List MemPlace} (h : DataW.trod enc Tryd.prog W base spare held fuel 28 cs = some x) : ∃ (a : DSta) (v : Value), cs = a.pre ++ [v] ∧ Texts (memW W) v a.names ∧ a.names.length ≤ Rows.uptoBulk x.1 := by
  obtain ⟨a0, a1, a2, rfl⟩ := len3 (st_len ruSta rcSta h)
  obtain ⟨n0, y0, h0, k0⟩ := st_field (i := 0) (ft := 23) (off := 0) ruSta (by kernel_rfl) rcPlc h
  simp only [List.drop_zero, List.drop_succ_cons, List.take_succ_cons, List.take_zero] at h0
  obtain ⟨v0, v1, hp0⟩ := rdPlc h0
  injection hp0 with hq0 hp0
  injection hp0 with hr0 _
  subst hq0; subst hr0
  obtain ⟨n1, y1, h1, k1⟩ := st_field (i := 1) (ft := 26) (off := 2) ruSta (by kernel_rfl) rcTs h
  simp only [List.drop_zero, List.drop_succ_cons, List.take_succ_cons, List.take_zero] at h1
  obtain ⟨l, ht, hl⟩ := rdTexts h1
  exact ⟨⟨v0, v1, l⟩, a2, rfl, ht, Nat.le_trans hl (by omega)⟩
theorem rdDb {fuel : Nat} {cs : List Value} {x : DataW H × List MemPlace} (h : DataW.trod enc Tryd.prog W base spare held fuel 32 cs = some x) : x.1 = x.1 ∧ (Rows.uptoBulk x.1 ≤ 1048576 → ∃ a : DDb, RDb (memW W) (.agg cs.toArray) a ∧ OkDb a ∧ OkTot a) := by
  obtain ⟨a0, a1, a2, a3, a4, a5, a6, a7, a8, rfl⟩ := len9 (st_len ruDb rcDb h)
  obtain ⟨n0, y0, h0, k0⟩ := st_field (i := 0) (ft := 4) (off := 0) ruDb (by kernel_rfl) rcB h
  simp only [List.drop_zero, List.drop_succ_cons, List.take_succ_cons, List.take_zero] at h0
  obtain ⟨v0, rfl⟩ := rdBool Tryd.underlying4 h0
  obtain ⟨n1, y1, h1, k1⟩ := st_field (i := 1) (ft := 25) (off := 1) ruDb (by kernel_rfl) rcVer h
  simp only [List.drop_zero, List.drop_succ_cons, List.take_succ_cons, List.take_zero] at h1
  obtain ⟨n2, y2, h2, k2⟩ := st_field (i := 2) (ft := 28) (off := 4) ruDb (by kernel_rfl) rcSta h
  simp only [List.drop_zero, List.drop_succ_cons, List.take_succ_cons, List.take_zero] at h2
  obtain ⟨n3, y3, h3, k3⟩ := st_field (i := 3) (ft := 29) (off := 7) ruDb (by kernel_rfl) rcMs h
  simp only [List.drop_zero, List.drop_succ_cons, List.take_succ_cons, List.take_zero] at h3
  obtain ⟨n4, y4, h4, k4⟩ := st_field (i := 4) (ft := 30) (off := 8) ruDb (by kernel_rfl) rcBs h
  simp only [List.drop_zero, List.drop_succ_cons, List.take_succ_cons, List.take_zero] at h4
  obtain ⟨ver, hver⟩ := rdVer h1
  obtain ⟨sta, sv, hsta, htx, hsl⟩ := rdSta h2
  obtain ⟨q, hm1, hm2, hm3⟩ := rdSlice (R := RMsg (memW W)) (Q := fun a n => a.sigs.length ≤ n ∧ ∀ s ∈ a.sigs, s.to.length ≤ n) sl29.slice rcMsg (by decide) (fun n cs x hx => rdMsg hx) (d := y3.1) (ps := y3.2) h3
  obtain ⟨r, ht1, ht2, ht3⟩ := rdSlice (R := RTab (memW W)) (Q := fun a n => a.rows.length ≤ n) sl30.slice rcTab (by decide) (fun n cs x hx => rdTab hx) (d := y4.1) (ps := y4.2) h4
  refine ⟨rfl, fun hb => ⟨⟨v0, ver, sta, q.map (·.1), r.map (·.1)⟩, ⟨sv, a7, a8, ?_, htx, hm1, ht1⟩, ?_, ?_⟩⟩
  · simp only [DVer.cells, List.cons.injEq, and_true] at hver
    obtain ⟨e1, e2, e3⟩ := hver
    simp only [DSta.pre, List.cons_append, List.nil_append, List.cons.injEq, and_true] at hsta
    obtain ⟨e4, e5, e6⟩ := hsta
    subst e1 e2 e3 e4 e5 e6
    rfl
  · have hq := sum_len (l := q.map (·.2)) (fun a ha => by obtain ⟨p, hp, rfl⟩ := List.mem_map.1 ha; exact (hm2 p hp).2)
    have hr := sum_len (l := r.map (·.2)) (fun a ha => by obtain ⟨p, hp, rfl⟩ := List.mem_map.1 ha; exact (ht2 p hp).2)
    simp only [List.length_map] at hq hr
    refine ⟨by show sta.names.length ≤ _; omega, by show (q.map (·.1)).length ≤ _; rw [List.length_map]; omega, by show (r.map (·.1)).length ≤ _; rw [List.length_map]; omega, fun s hs => ?_, fun s hs => ?_⟩
    · obtain ⟨p, hp, rfl⟩ := List.mem_map.1 (show s ∈ q.map (·.1) from hs)
      have h5 := sum_mem (List.mem_map.2 ⟨p, hp, rfl⟩ : p.2 ∈ q.map (·.2))
      obtain ⟨⟨h6, h7⟩, _⟩ := hm2 p hp
      exact ⟨by omega, fun s hs => by have := h7 s hs; omega⟩
    · obtain ⟨p, hp, rfl⟩ := List.mem_map.1 (show s ∈ r.map (·.1) from hs)
      have h5 := sum_mem (List.mem_map.2 ⟨p, hp, rfl⟩ : p.2 ∈ r.map (·.2))
      have h6 := (ht2 p hp).1
      omega
  · have hq := sum_len (l := q.map (·.2)) (fun a ha => by obtain ⟨p, hp, rfl⟩ := List.mem_map.1 ha; exact (hm2 p hp).2)
    have hr := sum_len (l := r.map (·.2)) (fun a ha => by obtain ⟨p, hp, rfl⟩ := List.mem_map.1 ha; exact (ht2 p hp).2)
    simp only [List.length_map] at hq hr
    refine ⟨by show (q.map (·.1)).length ≤ _; rw [List.length_map]; omega, by show (r.map (·.1)).length ≤ _; rw [List.length_map]; omega, ?_⟩
    have hle : sumSigs (q.map (·.1)) ≤ (q.map (·.2)).sum := by
      clear hm1 hm3 hq
      induction q with
      | nil => simp [sumSigs]
      | cons p q ih =>
        have h1 := (hm2 p (by simp)).1.1
        have h2 := ih fun p hp => hm2 p (by simp [hp])
        simp only [sumSigs, List.map_cons, List.sum_cons] at h2 ⊢
        omega
    show sumSigs (q.map (·.1)) ≤ _
    omega
end Go.Proofs.YtmgleeoecdodjaaDoor.Sh
