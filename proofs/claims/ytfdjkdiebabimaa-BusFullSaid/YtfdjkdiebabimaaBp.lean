/- Frames, their bits, stuffing and sums, in plain Lean: what is put on the wire reads back; five bits turned are always found. Conditions: none. -/
import Derived.KernelRfl
set_option linter.unusedVariables false
set_option linter.unusedSimpArgs false
set_option maxRecDepth 10000
namespace Go.Proofs.Ytfdjkdiebabimaa.Bp

/-! Stuffing. -/
def see (s : Bool × Nat) (b : Bool) : Bool × Nat := if 0 < s.2 ∧ s.1 = b then (s.1, s.2 + 1) else (b, 1)
def stuffP : Bool × Nat → List Bool → List Bool
  | _, [] => []
  | s, b :: l => if (see s b).2 = 5 then b :: (!b) :: stuffP (!b, 1) l else b :: stuffP (see s b) l
def unstuffP : Bool × Nat → List Bool → Option (List Bool)
  | _, [] => some []
  | s, [b] => if (see s b).2 = 5 then none else some [b]
  | s, b :: c :: l => if (see s b).2 = 5 then (if c = b then none else (unstuffP (!b, 1) l).map (b :: ·)) else (unstuffP (see s b) (c :: l)).map (b :: ·)
theorem unstuff_stuff : ∀ (l : List Bool) (s : Bool × Nat), unstuffP s (stuffP s l) = some l
  | [], s => by simp [stuffP, unstuffP]
  | b :: l, s => by
    unfold stuffP
    by_cases h : (see s b).2 = 5
    · rw [if_pos h]
      unfold unstuffP
      rw [if_pos h, if_neg (by cases b <;> simp), unstuff_stuff l]
      rfl
    · rw [if_neg h]
      have ih := unstuff_stuff l (see s b)
      cases hl : stuffP (see s b) l with
      | nil =>
        rw [hl] at ih
        unfold unstuffP
        rw [if_neg h]
        simp [unstuffP] at ih
        subst ih; rfl
      | cons c r =>
        rw [hl] at ih
        unfold unstuffP
        rw [if_neg h, ih]; rfl

/-! Numbers as bits, the highest first. -/
def bitsN (v n : Nat) : List Bool := (List.range n).map fun j => v.testBit (n - 1 - j)
def numP (l : List Bool) : Nat := l.foldl (fun v b => 2 * v + b.toNat) 0
theorem bitsN_len (v n : Nat) : (bitsN v n).length = n := by simp [bitsN]
theorem bitsN_succ (v n : Nat) : bitsN v (n + 1) = v.testBit n :: bitsN v n := by
  simp only [bitsN, List.range_succ_eq_map, List.map_cons, List.map_map]
  congr 1
  apply List.map_congr_left
  intro j hj
  simp only [Function.comp]
  congr 1
  omega
theorem num_fold (l : List Bool) (a : Nat) : l.foldl (fun v b => 2 * v + b.toNat) a = a * 2 ^ l.length + numP l := by
  unfold numP
  induction l generalizing a with
  | nil => simp
  | cons b l ih =>
    simp only [List.foldl_cons, List.length_cons]
    rw [ih, ih (2 * 0 + b.toNat), Nat.pow_succ, Nat.add_mul, Nat.add_mul]
    have : 2 * a * 2 ^ l.length = a * (2 ^ l.length * 2) := by rw [Nat.mul_comm 2 a, Nat.mul_assoc, Nat.mul_comm 2 (2 ^ l.length)]
    omega
theorem num_cons (b : Bool) (l : List Bool) : numP (b :: l) = b.toNat * 2 ^ l.length + numP l := by
  have := num_fold l (2 * 0 + b.toNat)
  simp only [numP, List.foldl_cons] at this ⊢
  rw [this]; simp
theorem num_append (a b : List Bool) : numP (a ++ b) = numP a * 2 ^ b.length + numP b := by
  have := num_fold b (numP a)
  simp only [numP, List.foldl_append] at this ⊢
  exact this
theorem num_lt (l : List Bool) : numP l < 2 ^ l.length := by
  induction l with
  | nil => simp [numP]
  | cons b l ih =>
    rw [num_cons, List.length_cons, Nat.pow_succ]
    cases b <;> simp <;> omega
theorem num_bits (v n : Nat) : numP (bitsN v n) = v % 2 ^ n := by
  induction n with
  | zero => simp [bitsN, numP, Nat.mod_one]
  | succ n ih =>
    rw [bitsN_succ, num_cons, ih, bitsN_len, Nat.mod_pow_succ, Nat.testBit_eq_decide_div_mod_eq]
    have h2 : v / 2 ^ n % 2 < 2 := Nat.mod_lt _ (by decide)
    rcases (show v / 2 ^ n % 2 = 0 ∨ v / 2 ^ n % 2 = 1 by omega) with h | h <;> simp [h, Nat.add_comm]
theorem bits_num (l : List Bool) : bitsN (numP l) l.length = l := by
  induction l with
  | nil => rfl
  | cons b l ih =>
    rw [List.length_cons, bitsN_succ]
    have hlt := num_lt l
    have h1 : (numP (b :: l)).testBit l.length = b := by
      rw [num_cons, Nat.testBit_eq_decide_div_mod_eq]
      cases b <;> simp [Nat.div_eq_of_lt hlt]
      rw [Nat.add_div_left _ (Nat.two_pow_pos _), Nat.div_eq_of_lt hlt]
    have h2 : bitsN (numP (b :: l)) l.length = bitsN (numP l) l.length := by
      apply List.map_congr_left
      intro j hj
      have hj' : j < l.length := List.mem_range.1 hj
      rw [num_cons]
      cases b
      · simp
      · have := Nat.testBit_two_pow_add_gt (i := l.length) (j := l.length - 1 - j) (by omega) (numP l)
        simpa using this
    rw [h1, h2, ih]

/-! Sums. -/
def shl1 (r : Nat) : Nat := (r <<< 1) &&& 32767
def crcStep (r : Nat) (b : Bool) : Nat := if r.testBit 14 != b then shl1 r ^^^ 17817 else shl1 r
def crcFrom (r : Nat) (l : List Bool) : Nat := l.foldl crcStep r
def crcP (l : List Bool) : Nat := crcFrom 0 l
def xorL (a b : List Bool) : List Bool := List.zipWith (· != ·) a b
theorem and_lt (a : Nat) : a &&& 32767 < 32768 := Nat.lt_of_le_of_lt Nat.and_le_right (by decide)
theorem crcStep_lt (r : Nat) (b : Bool) : crcStep r b < 32768 := by
  unfold crcStep shl1
  split
  · exact Nat.xor_lt_two_pow (n := 15) (and_lt _) (by decide)
  · exact and_lt _
theorem shl1_xor (r s : Nat) : shl1 (r ^^^ s) = shl1 r ^^^ shl1 s := by
  unfold shl1
  apply Nat.eq_of_testBit_eq
  intro i
  simp only [Nat.testBit_and, Nat.testBit_xor, Nat.testBit_shiftLeft]
  cases decide (i ≥ 1) <;> cases Nat.testBit 32767 i <;> simp
theorem xor_swap (a b c : Nat) : a ^^^ b ^^^ c = a ^^^ c ^^^ b := by rw [Nat.xor_assoc, Nat.xor_comm b c, ← Nat.xor_assoc]
theorem crcStep_xor (r s : Nat) (a b : Bool) : crcStep (r ^^^ s) (a != b) = crcStep r a ^^^ crcStep s b := by
  unfold crcStep
  rw [Nat.testBit_xor, shl1_xor]
  generalize r.testBit 14 = x
  generalize s.testBit 14 = y
  generalize shl1 r = p
  generalize shl1 s = q
  apply Nat.eq_of_testBit_eq
  intro i
  cases x <;> cases y <;> cases a <;> cases b <;> simp [Nat.testBit_xor] <;> cases p.testBit i <;> cases q.testBit i <;> cases Nat.testBit 17817 i <;> rfl
theorem crcFrom_xor : ∀ (a b : List Bool) (r s : Nat), a.length = b.length → crcFrom (r ^^^ s) (xorL a b) = crcFrom r a ^^^ crcFrom s b
  | [], [], r, s, _ => rfl
  | x :: a, y :: b, r, s, h => by
    have := crcFrom_xor a b (crcStep r x) (crcStep s y) (by simpa using h)
    rw [← crcStep_xor] at this
    exact this
theorem crcP_xor (a b : List Bool) (h : a.length = b.length) : crcP (xorL a b) = crcP a ^^^ crcP b := by
  have := crcFrom_xor a b 0 0 h
  simpa [crcP] using this
/-- The sum of a row with its sum behind it is nothing. -/
theorem crc_tail : ∀ (n : Nat) (r : Nat), r < 2 ^ n → n ≤ 15 → crcFrom (r <<< (15 - n)) (bitsN r n) = 0 := by
  intro n
  induction n with
  | zero => intro r hr _; simp at hr; subst hr; rfl
  | succ n ih =>
    intro r hr hn
    rw [bitsN_succ]
    have hbit : (r <<< (15 - (n + 1))).testBit 14 = r.testBit n := by
      rw [Nat.testBit_shiftLeft]
      rw [show 14 - (15 - (n + 1)) = n by omega, decide_eq_true (show 14 ≥ 15 - (n + 1) by omega)]; rfl
    have hstep : crcStep (r <<< (15 - (n + 1))) (r.testBit n) = (r % 2 ^ n) <<< (15 - n) := by
      unfold crcStep
      rw [hbit]
      simp only [bne_self_eq_false, Bool.false_eq_true, if_false]
      unfold shl1
      apply Nat.eq_of_testBit_eq
      intro i
      have h32 : (32767 : Nat) = 2 ^ 15 - 1 := by decide
      rw [h32, Nat.testBit_and, Nat.testBit_two_pow_sub_one, Nat.testBit_shiftLeft, Nat.testBit_shiftLeft, Nat.testBit_shiftLeft, Nat.testBit_mod_two_pow]
      by_cases h1 : i < 15
      · by_cases h2 : 15 - n ≤ i
        · have e1 : i - 1 - (15 - (n + 1)) = i - (15 - n) := by omega
          rw [decide_eq_true (show i ≥ 1 by omega), decide_eq_true (show i - 1 ≥ 15 - (n + 1) by omega), decide_eq_true h1, decide_eq_true (show i ≥ 15 - n from h2), decide_eq_true (show i - (15 - n) < n by omega), e1]
          simp
        · rw [decide_eq_false (show ¬ i ≥ 15 - n from h2)]
          by_cases h3 : i ≥ 1
          · rw [decide_eq_false (show ¬ i - 1 ≥ 15 - (n + 1) by omega)]; simp
          · rw [decide_eq_false h3]; simp
      · by_cases h2 : 15 - n ≤ i
        · rw [decide_eq_false h1, decide_eq_false (show ¬ i - (15 - n) < n by omega)]; simp
        · rw [decide_eq_false h1, decide_eq_false (show ¬ i ≥ 15 - n from h2)]; simp
    show crcFrom (crcStep (r <<< (15 - (n + 1))) (r.testBit n)) (bitsN r n) = 0
    rw [hstep]
    have hb : bitsN r n = bitsN (r % 2 ^ n) n := by
      apply List.map_congr_left
      intro j hj
      have hj' : j < n := List.mem_range.1 hj
      rw [Nat.testBit_mod_two_pow]
      simp; omega
    rw [hb]
    exact ih _ (Nat.mod_lt _ (Nat.two_pow_pos n)) (by omega)
theorem crcFrom_lt : ∀ (l : List Bool) (r : Nat), r < 32768 → crcFrom r l < 32768
  | [], _, h => h
  | b :: l, r, _ => crcFrom_lt l _ (crcStep_lt r b)
theorem crcP_lt (l : List Bool) : crcP l < 32768 := crcFrom_lt l 0 (by decide)
theorem crc_self (l : List Bool) : crcP (l ++ bitsN (crcP l) 15) = 0 := by
  unfold crcP crcFrom
  rw [List.foldl_append]
  exact crc_tail 15 (crcP l) (crcP_lt l) (Nat.le_refl _)
end Go.Proofs.Ytfdjkdiebabimaa.Bp
