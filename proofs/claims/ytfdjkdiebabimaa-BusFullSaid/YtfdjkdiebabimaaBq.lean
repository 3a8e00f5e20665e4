/- The sum finds any one to five bits turned in a row of up to 120. Conditions: none. -/
import Derived.Test.YtfdjkdiebabimaaBp
set_option linter.unusedVariables false
set_option linter.unusedSimpArgs false
set_option maxRecDepth 100000
namespace Go.Proofs.Ytfdjkdiebabimaa.Bp

def tab : Nat → Nat → List Nat
  | 0, _ => []
  | n + 1, r => r :: tab n (crcStep r false)
def sy (k : Nat) : Nat := Nat.rec 17817 (fun _ r => crcStep r false) k
theorem sy_zero : sy 0 = 17817 := rfl
theorem sy_succ (k : Nat) : sy (k + 1) = crcStep (sy k) false := rfl
def adv (k r : Nat) : Nat := Nat.rec r (fun _ r => crcStep r false) k
theorem adv_succ (k r : Nat) : adv (k + 1) r = adv k (crcStep r false) := by
  induction k with
  | zero => rfl
  | succ k ih => show crcStep (adv (k + 1) r) false = crcStep (adv k (crcStep r false)) false; rw [ih]
theorem tab_get : ∀ (n r k : Nat), k < n → (tab n r)[k]? = some (adv k r)
  | n + 1, r, 0, _ => rfl
  | n + 1, r, k + 1, h => by
    rw [adv_succ]
    exact tab_get n _ k (by omega)
theorem tab_len : ∀ (n r : Nat), (tab n r).length = n
  | 0, _ => rfl
  | n + 1, r => by simp [tab, tab_len n]
def pairVals : List Nat → List Nat
  | [] => []
  | x :: xs => xs.map (x ^^^ ·) ++ pairVals xs
def nodupB : List Nat → Nat → Bool
  | [], _ => true
  | x :: l, s => !s.testBit x && nodupB l (s ||| 1 <<< x)
theorem nodupB_spec : ∀ (l : List Nat) (s : Nat), nodupB l s = true → (∀ x ∈ l, s.testBit x = false) ∧ l.Nodup
  | [], _, _ => ⟨by simp, List.nodup_nil⟩
  | x :: l, s, h => by
    simp only [nodupB, Bool.and_eq_true, Bool.not_eq_true'] at h
    obtain ⟨h1, h2⟩ := nodupB_spec l _ h.2
    refine ⟨fun y hy => ?_, List.nodup_cons.2 ⟨fun hx => ?_, h2⟩⟩
    · rcases List.mem_cons.1 hy with rfl | hy
      · exact h.1
      · have := h1 y hy
        rw [Nat.testBit_or] at this
        simp at this; exact this.1
    · have := h1 x hx
      rw [Nat.testBit_or, Nat.one_shiftLeft, Nat.testBit_two_pow_self] at this
      simp at this
def T : List Nat := tab 120 17817
theorem T_ok : nodupB (pairVals T) 1 = true := by kernel_rfl
theorem pair_mem : ∀ (l : List Nat) (i j a b : Nat), i < j → l[i]? = some a → l[j]? = some b → a ^^^ b ∈ pairVals l
  | [], _, _, _, _, _, h, _ => by simp at h
  | x :: l, 0, j + 1, a, b, _, ha, hb => by
    simp at ha; subst ha
    exact List.mem_append_left _ (List.mem_map.2 ⟨b, List.mem_of_getElem? (by simpa using hb), rfl⟩)
  | x :: l, i + 1, j + 1, a, b, h, ha, hb => List.mem_append_right _ (pair_mem l i j a b (by omega) (by simpa using ha) (by simpa using hb))
theorem xor_cancel {a b c : Nat} (h : a ^^^ b = a ^^^ c) : b = c := by
  have := congrArg (a ^^^ ·) h
  simpa [← Nat.xor_assoc] using this
theorem pair_inj : ∀ (l : List Nat), (pairVals l).Nodup → ∀ (i j k m a b c d : Nat), i < j → k < m → l[i]? = some a → l[j]? = some b → l[k]? = some c → l[m]? = some d → a ^^^ b = c ^^^ d → i = k ∧ j = m
  | [], _, i, _, _, _, _, _, _, _, _, _, h, _, _, _, _ => by simp at h
  | x :: l, hn, i, j, k, m, a, b, c, d, hij, hkm, ha, hb, hc, hd, he => by
    obtain ⟨n1, n2, n3⟩ := List.nodup_append.1 hn
    cases j with
    | zero => omega
    | succ j =>
      cases m with
      | zero => omega
      | succ m =>
        simp only [List.getElem?_cons_succ] at hb hd
        cases i with
        | zero =>
          simp at ha; subst ha
          cases k with
          | zero =>
            simp at hc; subst hc
            have hbd := xor_cancel he
            subst hbd
            obtain ⟨hj, hbj⟩ := List.getElem?_eq_some_iff.1 hb
            obtain ⟨hm, hbm⟩ := List.getElem?_eq_some_iff.1 hd
            refine ⟨rfl, ?_⟩
            have := (List.getElem?_inj (l := l.map (x ^^^ ·)) (i := j) (j := m) (by simpa using hj) n1).1 (by rw [List.getElem?_map, List.getElem?_map, hb, hd])
            omega
          | succ k =>
            exfalso
            have h1 : x ^^^ b ∈ l.map (x ^^^ ·) := List.mem_map.2 ⟨b, List.mem_of_getElem? hb, rfl⟩
            have h2 := pair_mem l k m c d (by omega) (by simpa using hc) hd
            exact n3 _ h1 _ h2 he
        | succ i =>
          cases k with
          | zero =>
            exfalso
            simp at hc; subst hc
            have h1 : x ^^^ d ∈ l.map (x ^^^ ·) := List.mem_map.2 ⟨d, List.mem_of_getElem? hd, rfl⟩
            have h2 := pair_mem l i j a b (by omega) (by simpa using ha) hb
            exact n3 _ h1 _ h2 he.symm
          | succ k =>
            have := pair_inj l n2 i j k m a b c d (by omega) (by omega) (by simpa using ha) hb (by simpa using hc) hd he
            omega
theorem T_get {k : Nat} (h : k < 120) : T[k]? = some (sy k) := by
  unfold T
  rw [tab_get _ _ _ h]
  rfl
theorem two {a b : Nat} (hab : b < a) (ha : a < 120) : sy a ^^^ sy b ≠ 0 := by
  intro h
  obtain ⟨h1, _⟩ := nodupB_spec _ _ T_ok
  have := h1 _ (pair_mem T b a _ _ hab (T_get (by omega)) (T_get ha))
  rw [Nat.xor_comm, h] at this
  simp at this
theorem four {a b c d : Nat} (hab : b < a) (hbc : c < b) (hcd : d < c) (ha : a < 120) : sy a ^^^ (sy b ^^^ (sy c ^^^ sy d)) ≠ 0 := by
  intro h
  obtain ⟨_, h2⟩ := nodupB_spec _ _ T_ok
  have he : sy b ^^^ sy a = sy d ^^^ sy c := by
    have h3 : (sy a ^^^ sy b) ^^^ (sy c ^^^ sy d) = 0 := by rw [Nat.xor_assoc]; exact h
    have := congrArg (· ^^^ (sy c ^^^ sy d)) h3
    simp only [Nat.xor_assoc, Nat.xor_self, Nat.xor_zero, Nat.zero_xor] at this
    rw [Nat.xor_comm (sy b), Nat.xor_comm (sy d)]
    exact this
  have := pair_inj T h2 b a d c _ _ _ _ hab hcd (T_get (by omega)) (T_get ha) (T_get (by omega)) (T_get (by omega)) he
  omega
/-- The parity of fifteen bits. -/
def par (r : Nat) : Bool := (List.range 15).foldl (fun p i => p != r.testBit i) false
theorem par_fold (l : List Nat) (r s : Nat) (p q : Bool) : l.foldl (fun p i => p != (r ^^^ s).testBit i) (p != q) = (l.foldl (fun p i => p != r.testBit i) p != l.foldl (fun p i => p != s.testBit i) q) := by
  induction l generalizing p q with
  | nil => rfl
  | cons i l ih =>
    simp only [List.foldl_cons]
    rw [← ih]
    congr 1
    rw [Nat.testBit_xor]
    cases p <;> cases q <;> cases r.testBit i <;> cases s.testBit i <;> rfl
theorem par_xor (r s : Nat) : par (r ^^^ s) = (par r != par s) := par_fold (List.range 15) r s false false
theorem par_T : T.all par = true := by kernel_rfl
theorem par_sy {k : Nat} (h : k < 120) : par (sy k) = true := List.all_eq_true.1 par_T _ (List.mem_of_getElem? (T_get h))
theorem odd {r : Nat} (h : par r = true) : r ≠ 0 := by
  rintro rfl
  exact absurd h (by decide)
def ks : List Bool → List Nat
  | [] => []
  | b :: l => if b then l.length :: ks l else ks l
def xorAll (l : List Nat) : Nat := l.foldr (fun k r => sy k ^^^ r) 0
theorem crcFrom_adv : ∀ (l : List Bool) (r : Nat), crcFrom r l = adv l.length r ^^^ crcFrom 0 l := by
  intro l
  induction l with
  | nil => intro r; simp [crcFrom, adv]; rfl
  | cons b l ih =>
    intro r
    show crcFrom (crcStep r b) l = adv (l.length + 1) r ^^^ crcFrom (crcStep 0 b) l
    have h1 : crcStep r b = crcStep r false ^^^ crcStep 0 b := by
      have := crcStep_xor r 0 false b
      rw [Nat.xor_zero] at this
      rw [← this]; cases b <;> rfl
    have hx : ∀ (k a c : Nat), adv k (a ^^^ c) = adv k a ^^^ adv k c := by
      intro k
      induction k with
      | zero => intro a c; rfl
      | succ k ihk =>
        intro a c
        rw [adv_succ, adv_succ, adv_succ, ← ihk]
        congr 1
        exact crcStep_xor a c false false
    rw [ih (crcStep r b), ih (crcStep 0 b), adv_succ, ← Nat.xor_assoc, ← hx, ← h1]
theorem crc_ks (e : List Bool) : crcP e = xorAll (ks e) := by
  unfold crcP
  induction e with
  | nil => rfl
  | cons b l ih =>
    show crcFrom (crcStep 0 b) l = _
    rw [crcFrom_adv, ih]
    cases b with
    | true => rfl
    | false =>
      have : ∀ k, adv k 0 = 0 := by
        intro k
        induction k with
        | zero => rfl
        | succ k ih => rw [adv_succ]; exact ih
      rw [show crcStep 0 false = 0 from rfl, this, Nat.zero_xor]
      simp [ks]
theorem ks_lt : ∀ (e : List Bool), (∀ k ∈ ks e, k < e.length) ∧ (ks e).Pairwise (· > ·)
  | [] => ⟨by simp [ks], List.Pairwise.nil⟩
  | b :: l => by
    obtain ⟨h1, h2⟩ := ks_lt l
    cases b with
    | false => exact ⟨fun k hk => by have := h1 k (by simpa [ks] using hk); simp; omega, by simpa [ks] using h2⟩
    | true =>
      refine ⟨fun k hk => ?_, ?_⟩
      · simp only [ks, if_true, List.mem_cons] at hk
        rcases hk with rfl | hk
        · simp
        · have := h1 k hk; simp; omega
      · simp only [ks, if_true, List.pairwise_cons]
        exact ⟨fun k hk => h1 k hk, h2⟩
/-- A row of at most 120 bits with one to five of them on has a sum. -/
theorem crc_finds (e : List Bool) (hl : e.length ≤ 120) (h5 : (ks e).length ≤ 5) (h0 : crcP e = 0) : ks e = [] := by
  obtain ⟨hlt, hp⟩ := ks_lt e
  rw [crc_ks] at h0
  have hlt : ∀ k ∈ ks e, k < 120 := fun k hk => Nat.lt_of_lt_of_le (hlt k hk) hl
  generalize ks e = K at *
  match K, hp, hlt, h5, h0 with
  | [], _, _, _, _ => rfl
  | [a], _, hlt, _, h0 =>
    have := par_sy (hlt a (by simp))
    exact absurd (by simpa [xorAll] using h0) (odd this)
  | [a, b], hp, hlt, _, h0 =>
    simp only [List.pairwise_cons] at hp
    exact absurd (by simpa [xorAll] using h0) (two (hp.1 b (by simp)) (hlt a (by simp)))
  | [a, b, c], _, hlt, _, h0 =>
    refine absurd h0 (odd ?_)
    simp only [xorAll, List.foldr_cons, List.foldr_nil, Nat.xor_zero, par_xor, par_sy (hlt a (by simp)), par_sy (hlt b (by simp)), par_sy (hlt c (by simp))]
    decide
  | [a, b, c, d], hp, hlt, _, h0 =>
    simp only [List.pairwise_cons] at hp
    exact absurd (by simpa [xorAll] using h0) (four (hp.1 b (by simp)) (hp.2.1 c (by simp)) (hp.2.2.1 d (by simp)) (hlt a (by simp)))
  | [a, b, c, d, f], _, hlt, _, h0 =>
    refine absurd h0 (odd ?_)
    simp only [xorAll, List.foldr_cons, List.foldr_nil, Nat.xor_zero, par_xor, par_sy (hlt a (by simp)), par_sy (hlt b (by simp)), par_sy (hlt c (by simp)), par_sy (hlt d (by simp)), par_sy (hlt f (by simp))]
    decide
  | a :: b :: c :: d :: f :: g :: r, _, _, h5, _ => simp at h5
end Go.Proofs.Ytfdjkdiebabimaa.Bp
