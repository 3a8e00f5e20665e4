/- Frames as bits: what is written reads back; what is turned in at most five places is not taken for a frame. Conditions: none. -/
import Derived.Test.YtfdjkdiebabimaaBq
set_option linter.unusedVariables false
set_option linter.unusedSimpArgs false
set_option maxRecDepth 100000
namespace Go.Proofs.Ytfdjkdiebabimaa.Bp

structure DFr where
  id : Nat
  wide : Bool
  data : List Nat
deriving DecidableEq
def DFr.zero : DFr := ⟨0, false, []⟩
/-- A frame that can be sent. -/
structure Valid (f : DFr) : Prop where
  id : f.id ≤ 536870911
  short : f.wide = false → f.id ≤ 2047
  data : f.data.length ≤ 8
  bytes : ∀ b ∈ f.data, b < 256
def headP (f : DFr) : List Bool :=
  [false] ++ (if f.wide then bitsN (f.id >>> 18) 11 ++ bitsN 3 2 ++ bitsN f.id 18 ++ bitsN 0 3 else bitsN f.id 11 ++ bitsN 0 3) ++ bitsN f.data.length 4 ++ f.data.flatMap (bitsN · 8)
def bitsP (f : DFr) : List Bool := headP f ++ bitsN (crcP (headP f)) 15
def wireP (l : List Bool) : List Bool := stuffP (false, 0) l ++ List.replicate 10 true
/-- n bits from k on. -/
def cut (m : List Bool) (k n : Nat) : List Bool := (m.drop k).take n
def bytesAt (m : List Bool) (k : Nat) : Nat → List Nat
  | 0 => []
  | n + 1 => numP (cut m k 8) :: bytesAt m (k + 8) n
/-- The bytes and the sum behind the header. -/
def restP (m : List Bool) (id : Nat) (wide : Bool) (k : Nat) : Option DFr :=
  let size := numP (cut m k 4)
  if 8 < size then none else
  if m.length ≠ k + 4 + 8 * size + 15 then none else
  if numP (cut m (k + 4 + 8 * size) 15) ≠ crcP (m.take (k + 4 + 8 * size)) then none else
  some ⟨id, wide, bytesAt m (k + 4) size⟩
def parseP (m : List Bool) : Option DFr :=
  if m.length < 14 then none else
  if numP (cut m 0 1) ≠ 0 ∨ decide (numP (cut m 12 1) = 1) ≠ decide (numP (cut m 13 1) = 1) then none else
  if numP (cut m 13 1) = 1 then
    if m.length < 14 + 25 then none else
    if numP (cut m 32 3) ≠ 0 then none else
    restP m (numP (cut m 1 11) * 262144 % 4294967296 ||| numP (cut m 14 18)) true 35
  else
    if m.length < 14 + 5 then none else
    if numP (cut m 14 1) ≠ 0 then none else
    restP m (numP (cut m 1 11)) false 15
def decodeP (l : List Bool) : Option DFr :=
  if l.length < 10 then none else
  if numP (l.drop (l.length - 10)) ≠ 1023 then none else
  (unstuffP (false, 0) (l.take (l.length - 10))).bind parseP

theorem decode_wire (m : List Bool) : decodeP (wireP m) = parseP m := by
  have hl : (wireP m).length = (stuffP (false, 0) m).length + 10 := by simp [wireP]
  unfold decodeP
  rw [if_neg (by omega), hl, Nat.add_sub_cancel]
  have h1 : (wireP m).drop (stuffP (false, 0) m).length = List.replicate 10 true := by simp [wireP]
  have h2 : (wireP m).take (stuffP (false, 0) m).length = stuffP (false, 0) m := by simp [wireP]
  rw [h1, h2, if_neg (by decide), unstuff_stuff]
  rfl
/-- What parses has no sum. -/
theorem parse_crc {m : List Bool} {g : DFr} (h : parseP m = some g) : crcP m = 0 := by
  have rest : ∀ id wide k, restP m id wide k = some g → crcP m = 0 := by
    intro id wide k h
    unfold restP at h
    simp only at h
    split at h
    · cases h
    · split at h
      · cases h
      · split at h
        · cases h
        · rename_i h1 h2 h3
          have h2 : m.length = k + 4 + 8 * numP (cut m k 4) + 15 := by omega
          have h3 : numP (cut m (k + 4 + 8 * numP (cut m k 4)) 15) = crcP (m.take (k + 4 + 8 * numP (cut m k 4))) := by
            exact Classical.byContradiction fun hh => h3 hh
          generalize k + 4 + 8 * numP (cut m k 4) = n at *
          have h4 : cut m n 15 = m.drop n := by unfold cut; exact List.take_of_length_le (by simp; omega)
          have h5 : (m.drop n).length = 15 := by simp; omega
          rw [h4] at h3
          have h6 : m = m.take n ++ bitsN (crcP (m.take n)) 15 := by
            rw [← h3]
            have := bits_num (m.drop n)
            rw [h5] at this
            rw [this, List.take_append_drop]
          rw [h6]
          exact crc_self _
  unfold parseP at h
  split at h
  · cases h
  · split at h
    · cases h
    · split at h
      · split at h
        · cases h
        · split at h
          · cases h
          · exact rest _ _ _ h
      · split at h
        · cases h
        · split at h
          · cases h
          · exact rest _ _ _ h
theorem bits_crc (f : DFr) : crcP (bitsP f) = 0 := crc_self _
theorem head_len (f : DFr) : (headP f).length = 1 + (if f.wide then 34 else 14) + 4 + 8 * f.data.length := by
  have h : (f.data.flatMap (bitsN · 8)).length = 8 * f.data.length := by
    induction f.data with
    | nil => rfl
    | cons b l ih => rw [List.flatMap_cons, List.length_append, ih, bitsN_len, List.length_cons]; omega
  unfold headP
  split <;> simp [bitsN_len, h] <;> omega
theorem bits_len (f : DFr) : (bitsP f).length = (headP f).length + 15 := by simp [bitsP, bitsN_len]
theorem xorL_len (a b : List Bool) (h : a.length = b.length) : (xorL a b).length = a.length := by simp [xorL, h]
theorem xorL_zero : ∀ (a e : List Bool), a.length = e.length → ks e = [] → xorL a e = a
  | [], [], _, _ => rfl
  | x :: a, b :: e, h, hk => by
    cases b with
    | true => simp [ks] at hk
    | false =>
      have := xorL_zero a e (by simpa using h) (by simpa [ks] using hk)
      simp only [xorL, List.zipWith_cons_cons] at this ⊢
      rw [this]; cases x <;> rfl
theorem cut_mid (a b c : List Bool) (n : Nat) (h : b.length = n) : cut (a ++ b ++ c) a.length n = b := by
  unfold cut
  rw [List.append_assoc, List.drop_left, List.take_append_of_le_length (by omega), List.take_of_length_le (by omega)]
theorem cut_at {m a b c : List Bool} {k n : Nat} (hm : m = a ++ b ++ c) (hk : a.length = k) (hn : b.length = n) : cut m k n = b := by
  subst hm; subst hk; exact cut_mid a b c n hn
theorem bytes_read : ∀ (l : List Nat) (m a c : List Bool) (k : Nat), (∀ b ∈ l, b < 256) → m = a ++ l.flatMap (bitsN · 8) ++ c → a.length = k → bytesAt m k l.length = l
  | [], _, _, _, _, _, _, _ => rfl
  | b :: l, m, a, c, k, hb, hm, hk => by
    have h1 : cut m k 8 = bitsN b 8 := cut_at (a := a) (b := bitsN b 8) (c := l.flatMap (bitsN · 8) ++ c) (by rw [hm, List.flatMap_cons]; simp [List.append_assoc]) hk (bitsN_len _ _)
    have ih := bytes_read l m (a ++ bitsN b 8) c (k + 8) (fun x hx => hb x (by simp [hx])) (by rw [hm, List.flatMap_cons]; simp [List.append_assoc]) (by simp [hk, bitsN_len])
    show numP (cut m k 8) :: bytesAt m (k + 8) l.length = b :: l
    rw [h1, ih, num_bits, Nat.mod_eq_of_lt (hb b (by simp))]
theorem rest_ok (f : DFr) (hv : Valid f) (id : Nat) (wide : Bool) (hd : List Bool) (k : Nat) (hk : hd.length = k) (hh : headP f = hd ++ bitsN f.data.length 4 ++ f.data.flatMap (bitsN · 8)) : restP (bitsP f) id wide k = some ⟨id, wide, f.data⟩ := by
  have hlen := hv.data
  have hfl : (f.data.flatMap (bitsN · 8)).length = 8 * f.data.length := by
    induction f.data with
    | nil => rfl
    | cons b l ih => rw [List.flatMap_cons, List.length_append, ih, bitsN_len, List.length_cons]; omega
  have h1 : cut (bitsP f) k 4 = bitsN f.data.length 4 := cut_at (a := hd) (c := f.data.flatMap (bitsN · 8) ++ bitsN (crcP (headP f)) 15) (by
    show headP f ++ _ = _
    conv => lhs; arg 1; rw [hh]
    simp [List.append_assoc]) hk (bitsN_len _ _)
  have h2 : numP (cut (bitsP f) k 4) = f.data.length := by rw [h1, num_bits, Nat.mod_eq_of_lt (by omega)]
  have h3 : (headP f).length = k + 4 + 8 * f.data.length := by rw [hh]; simp [hk, bitsN_len, hfl]; omega
  have h4 : (bitsP f).take (k + 4 + 8 * f.data.length) = headP f := by
    unfold bitsP; rw [← h3, List.take_left]
  have h5 : cut (bitsP f) (k + 4 + 8 * f.data.length) 15 = bitsN (crcP (headP f)) 15 := cut_at (a := headP f) (c := []) (by simp [bitsP]) h3 (bitsN_len _ _)
  have h6 : bytesAt (bitsP f) (k + 4) f.data.length = f.data := bytes_read f.data _ (hd ++ bitsN f.data.length 4) (bitsN (crcP (headP f)) 15) _ hv.bytes (by
    show headP f ++ _ = _
    conv => lhs; arg 1; rw [hh]) (by simp [hk, bitsN_len])
  unfold restP
  simp only [h2]
  rw [if_neg (by omega), if_neg (by rw [bits_len, h3]; simp), h4, h5, num_bits, Nat.mod_eq_of_lt (crcP_lt _), if_neg (by simp), h6]
/-- What is written reads back. -/
theorem parse_bits (f : DFr) (hv : Valid f) : parseP (bitsP f) = some f := by
  have hl := bits_len f
  have hh := head_len f
  obtain ⟨id, wide, data⟩ := f
  have v1 := hv.id
  have v2 := hv.short
  simp only at v1 v2
  cases wide with
  | true =>
    have hsplit : headP ⟨id, true, data⟩ = ([false] ++ bitsN (id >>> 18) 11 ++ bitsN 3 2 ++ bitsN id 18 ++ bitsN 0 3) ++ bitsN data.length 4 ++ data.flatMap (bitsN · 8) := by simp [headP, List.append_assoc]
    have hb : bitsP ⟨id, true, data⟩ = [false] ++ bitsN (id >>> 18) 11 ++ [true] ++ [true] ++ bitsN id 18 ++ bitsN 0 3 ++ (bitsN data.length 4 ++ data.flatMap (bitsN · 8) ++ bitsN (crcP (headP ⟨id, true, data⟩)) 15) := by
      show headP ⟨id, true, data⟩ ++ _ = _
      conv => lhs; arg 1; rw [hsplit]
      simp [List.append_assoc, show bitsN 3 2 = [true, true] from rfl]
    simp only [if_true] at hh
    have c0 : cut (bitsP ⟨id, true, data⟩) 0 1 = [false] := cut_at (a := []) (by rw [hb]; simp only [List.append_assoc, List.nil_append] <;> try rfl) rfl rfl
    have c1 : cut (bitsP ⟨id, true, data⟩) 1 11 = bitsN (id >>> 18) 11 := cut_at (a := [false]) (by rw [hb]; try (simp only [List.append_assoc] <;> try rfl)) rfl (bitsN_len _ _)
    have c2 : cut (bitsP ⟨id, true, data⟩) 12 1 = [true] := cut_at (a := [false] ++ bitsN (id >>> 18) 11) (by rw [hb]; try (simp only [List.append_assoc] <;> try rfl)) (by simp [bitsN_len]) rfl
    have c3 : cut (bitsP ⟨id, true, data⟩) 13 1 = [true] := cut_at (a := [false] ++ bitsN (id >>> 18) 11 ++ [true]) (by rw [hb]; try (simp only [List.append_assoc] <;> try rfl)) (by simp [bitsN_len]) rfl
    have c4 : cut (bitsP ⟨id, true, data⟩) 14 18 = bitsN id 18 := cut_at (a := [false] ++ bitsN (id >>> 18) 11 ++ [true] ++ [true]) (by rw [hb]; try (simp only [List.append_assoc] <;> try rfl)) (by simp [bitsN_len]) (bitsN_len _ _)
    have c5 : cut (bitsP ⟨id, true, data⟩) 32 3 = bitsN 0 3 := cut_at (a := [false] ++ bitsN (id >>> 18) 11 ++ [true] ++ [true] ++ bitsN id 18) (by rw [hb]; try (simp only [List.append_assoc] <;> try rfl)) (by simp [bitsN_len]) (bitsN_len _ _)
    unfold parseP
    rw [if_neg (by omega), c0, c2, c3, if_neg (by decide), if_pos (by decide), if_neg (by omega), c5, if_neg (by decide), c1, c4, num_bits, num_bits]
    have hid : (id >>> 18 % 2 ^ 11) * 262144 % 4294967296 ||| id % 2 ^ 18 = id := by
      have h1 : id >>> 18 = id / 2 ^ 18 := Nat.shiftRight_eq_div_pow _ _
      have h2 : id / 2 ^ 18 < 2 ^ 11 := by omega
      rw [h1, Nat.mod_eq_of_lt h2]
      have h3 : id / 2 ^ 18 * 262144 % 4294967296 = 2 ^ 18 * (id / 2 ^ 18) := by omega
      rw [h3, ← Nat.two_pow_add_eq_or_of_lt (Nat.mod_lt _ (by decide))]
      omega
    rw [hid]
    exact rest_ok ⟨id, true, data⟩ hv id true _ 35 (by simp [bitsN_len]) hsplit
  | false =>
    have hsplit : headP ⟨id, false, data⟩ = ([false] ++ bitsN id 11 ++ bitsN 0 3) ++ bitsN data.length 4 ++ data.flatMap (bitsN · 8) := by simp [headP, List.append_assoc]
    have hb : bitsP ⟨id, false, data⟩ = [false] ++ bitsN id 11 ++ [false] ++ [false] ++ [false] ++ (bitsN data.length 4 ++ data.flatMap (bitsN · 8) ++ bitsN (crcP (headP ⟨id, false, data⟩)) 15) := by
      show headP ⟨id, false, data⟩ ++ _ = _
      conv => lhs; arg 1; rw [hsplit]
      simp [List.append_assoc, show bitsN 0 3 = [false, false, false] from rfl]
    simp only [Bool.false_eq_true, if_false] at hh
    have c0 : cut (bitsP ⟨id, false, data⟩) 0 1 = [false] := cut_at (a := []) (by rw [hb]; simp only [List.append_assoc, List.nil_append] <;> try rfl) rfl rfl
    have c1 : cut (bitsP ⟨id, false, data⟩) 1 11 = bitsN id 11 := cut_at (a := [false]) (by rw [hb]; try (simp only [List.append_assoc] <;> try rfl)) rfl (bitsN_len _ _)
    have c2 : cut (bitsP ⟨id, false, data⟩) 12 1 = [false] := cut_at (a := [false] ++ bitsN id 11) (by rw [hb]; try (simp only [List.append_assoc] <;> try rfl)) (by simp [bitsN_len]) rfl
    have c3 : cut (bitsP ⟨id, false, data⟩) 13 1 = [false] := cut_at (a := [false] ++ bitsN id 11 ++ [false]) (by rw [hb]; try (simp only [List.append_assoc] <;> try rfl)) (by simp [bitsN_len]) rfl
    have c4 : cut (bitsP ⟨id, false, data⟩) 14 1 = [false] := cut_at (a := [false] ++ bitsN id 11 ++ [false] ++ [false]) (by rw [hb]; try (simp only [List.append_assoc] <;> try rfl)) (by simp [bitsN_len]) rfl
    unfold parseP
    rw [if_neg (by omega), c0, c2, c3, if_neg (by decide), if_neg (by decide), if_neg (by omega), c4, if_neg (by decide), c1, num_bits, Nat.mod_eq_of_lt (by have := v2 rfl; omega)]
    exact rest_ok ⟨id, false, data⟩ hv id false _ 15 (by simp [bitsN_len]) hsplit
/-- A frame's bits, turned in at most five places, are the frame or none. -/
theorem honest (f : DFr) (hv : Valid f) (e : List Bool) (he : e.length = (bitsP f).length) (h5 : (ks e).length ≤ 5) : decodeP (wireP (xorL (bitsP f) e)) = none ∨ decodeP (wireP (xorL (bitsP f) e)) = some f := by
  rw [decode_wire]
  cases hp : parseP (xorL (bitsP f) e) with
  | none => exact .inl rfl
  | some g =>
    right
    have h0 := parse_crc hp
    rw [crcP_xor _ _ he.symm, bits_crc, Nat.zero_xor] at h0
    have hl := bits_len f
    have hh := head_len f
    have hd := hv.data
    have hlen : e.length ≤ 120 := by
      rw [he, hl, hh]
      split <;> omega
    have hk := crc_finds e hlen h5 h0
    rw [xorL_zero _ _ he.symm hk, parse_bits f hv] at hp
    exact hp.symm
end Go.Proofs.Ytfdjkdiebabimaa.Bp
