/- Plain arithmetic of polynomials over bits, for the walks: one step of each of the program's loops. -/
import Derived.Test.YtcdbffgmgfblkaaDoorPol
namespace Go.Proofs.YtcdbffgmgfblkaaDoor.Pol
set_option linter.unusedVariables false
set_option linter.unusedSimpArgs false

theorem xor_div_pow (x y n : Nat) : (x ^^^ y) / 2 ^ n = x / 2 ^ n ^^^ y / 2 ^ n := by
  rw [← Nat.shiftRight_eq_div_pow, ← Nat.shiftRight_eq_div_pow, ← Nat.shiftRight_eq_div_pow, Nat.shiftRight_xor_distrib]
theorem xor_mod_pow (x y n : Nat) : (x ^^^ y) % 2 ^ n = x % 2 ^ n ^^^ y % 2 ^ n := Nat.xor_mod_two_pow

theorem add_pow_xor {x k : Nat} (h : x < 2 ^ k) : x + 2 ^ k = x ^^^ 2 ^ k := by
  apply Nat.eq_of_testBit_eq
  intro i
  rw [Nat.testBit_xor, Nat.testBit_two_pow, Nat.add_comm]
  by_cases e : k = i
  · subst e
    rw [Nat.testBit_two_pow_add_eq]; simp
  · by_cases hlt : i < k
    · rw [Nat.testBit_two_pow_add_gt hlt]; simp [e]
    · have h1 : x.testBit i = false := Nat.testBit_lt_two_pow (Nat.lt_of_lt_of_le h (Nat.pow_le_pow_right (by omega) (by omega)))
      have h2 : (2 ^ k + x).testBit i = false := Nat.testBit_lt_two_pow (Nat.lt_of_lt_of_le (m := 2 ^ (k + 1)) (by rw [Nat.pow_succ]; omega) (Nat.pow_le_pow_right (by omega) (by omega)))
      rw [h1, h2]; simp [e]

theorem mod_pow_next (B k : Nat) : B % 2 ^ (k + 1) = if B / 2 ^ k % 2 = 1 then B % 2 ^ k ^^^ 2 ^ k else B % 2 ^ k := by
  rw [Nat.mod_pow_succ]
  split
  · rename_i h
    rw [h, Nat.mul_one, add_pow_xor (Nat.mod_lt _ (Nat.two_pow_pos k))]
  · rename_i h
    rw [show B / 2 ^ k % 2 = 0 from by omega, Nat.mul_zero, Nat.add_zero]

theorem mul_next (A B k : Nat) : mul A (B % 2 ^ (k + 1)) = if B / 2 ^ k % 2 = 1 then mul A (B % 2 ^ k) ^^^ A * 2 ^ k else mul A (B % 2 ^ k) := by
  rw [mod_pow_next]
  split
  · rw [mul_xor, mul_pow]
  · rfl

/-- 2^64. -/
def M : Nat := 18446744073709551616
theorem M_eq : M = 2 ^ 64 := rfl
def hi (p : Nat) : Nat := p / 2 ^ 64
def lo (p : Nat) : Nat := p % 2 ^ 64
theorem lo_lt (p : Nat) : lo p ≤ 18446744073709551615 := by unfold lo; omega
theorem hi_xor (p q : Nat) : hi (p ^^^ q) = hi p ^^^ hi q := xor_div_pow p q 64
theorem lo_xor (p q : Nat) : lo (p ^^^ q) = lo p ^^^ lo q := xor_mod_pow p q 64
theorem lo_of_lt {p : Nat} (h : p < 18446744073709551616) : lo p = p := Nat.mod_eq_of_lt h
theorem hi_of_lt {p : Nat} (h : p < 18446744073709551616) : hi p = 0 := Nat.div_eq_of_lt h
theorem eq_hi_lo {p q : Nat} (h : hi p = hi q) (l : lo p = lo q) : p = q := by
  unfold hi at h; unfold lo at l; omega
theorem hi_shift (a k : Nat) (h : k ≤ 64) : hi (a * 2 ^ k) = a / 2 ^ (64 - k) := by
  unfold hi
  rw [show (2 : Nat) ^ 64 = 2 ^ (64 - k) * 2 ^ k from by rw [← Nat.pow_add]; congr 1; omega]
  rw [Nat.mul_div_mul_right _ _ (Nat.two_pow_pos k)]
theorem hi_shift' (a k : Nat) (h : 64 ≤ k) : hi (a * 2 ^ k) = a * 2 ^ (k - 64) := by
  unfold hi
  rw [show (2 : Nat) ^ k = 2 ^ (k - 64) * 2 ^ 64 from by rw [← Nat.pow_add]; congr 1; omega, ← Nat.mul_assoc]
  exact Nat.mul_div_cancel _ (Nat.two_pow_pos 64)

theorem lo_shift_min (a d : Nat) : lo (a * 2 ^ min d 64) = lo (a * 2 ^ d) := by
  by_cases h : d ≤ 64
  · rw [Nat.min_eq_left h]
  · rw [Nat.min_eq_right (by omega)]
    unfold lo
    rw [Nat.mul_mod_left, show d = (d - 64) + 64 from by omega, Nat.pow_add, ← Nat.mul_assoc, Nat.mul_mod_left]
theorem len_le64 {a : Nat} (h : a ≤ 18446744073709551615) : len a ≤ 64 := len_le.2 (by omega)

theorem mul_lt {a b m n : Nat} (ha : a < 2 ^ m) (hb : b < 2 ^ n) : mul a b < 2 ^ (m + n) := by
  by_cases h0 : a = 0
  · subst h0; rw [zero_mul]; exact Nat.two_pow_pos _
  · by_cases h1 : b = 0
    · subst h1; rw [mul_zero]; exact Nat.two_pow_pos _
    · have := mul_ne_zero_len h0 h1
      have := len_le.2 ha
      have := len_le.2 hb
      exact len_le.1 (by omega)

theorem hi_mul_lt {a b : Nat} (ha : a ≤ 18446744073709551615) (hb : b ≤ 18446744073709551615) : hi (mul a b) ≤ 18446744073709551615 := by
  have := mul_lt (m := 64) (n := 64) (a := a) (b := b) (by omega) (by omega)
  unfold hi
  have h : mul a b < 2 ^ 64 * 2 ^ 64 := by rw [← Nat.pow_add]; exact this
  have := Nat.div_lt_of_lt_mul h
  omega

/-! one round of Mul -/
theorem mul_round_hi (A B k : Nat) (hk : k ≤ 64) : hi (mul A (B % 2 ^ (k + 1))) = if B / 2 ^ k % 2 = 1 then hi (mul A (B % 2 ^ k)) ^^^ A / 2 ^ (64 - k) else hi (mul A (B % 2 ^ k)) := by
  rw [mul_next]
  split
  · rw [hi_xor, hi_shift _ _ hk]
  · rfl
theorem mul_round_lo (A B k : Nat) : lo (mul A (B % 2 ^ (k + 1))) = if B / 2 ^ k % 2 = 1 then lo (mul A (B % 2 ^ k)) ^^^ lo (A * 2 ^ k) else lo (mul A (B % 2 ^ k)) := by
  rw [mul_next]
  split
  · rw [lo_xor]
  · rfl

/-! one round of Div -/
theorem or_xor {x y : Nat} (h : ∀ i, y.testBit i = true → x.testBit i = false) : x ||| y = x ^^^ y := by
  apply Nat.eq_of_testBit_eq
  intro i
  rw [Nat.testBit_or, Nat.testBit_xor]
  cases hy : y.testBit i with
  | false => simp
  | true => rw [h i hy]; rfl

theorem or_pow {q d : Nat} (h : q % 2 ^ (d + 1) = 0) : q ||| 2 ^ d = q ^^^ 2 ^ d := by
  apply or_xor
  intro i hi
  rw [Nat.testBit_two_pow] at hi
  have : d = i := by simpa using hi
  subst this
  have h1 : (q % 2 ^ (d + 1)).testBit d = (decide (d < d + 1) && q.testBit d) := Nat.testBit_mod_two_pow q (d + 1) d
  rw [h, Nat.zero_testBit] at h1
  simpa using h1.symm

/-- What Div's loop keeps: what is left is a, so far it goes q times. -/
def DivInv (A b q a : Nat) : Prop := A = mul q b ^^^ a ∧ (len b ≤ len a → q % 2 ^ (len a - len b + 1) = 0)

theorem divInv_begin (A b : Nat) : DivInv A b 0 A := ⟨by rw [zero_mul, Nat.zero_xor], fun _ => Nat.zero_mod _⟩

theorem len_shift {b : Nat} (hb : b ≠ 0) (d : Nat) : len (b * 2 ^ d) = len b + d := by
  have h1 := le_of_len hb
  have h2 := lt_len b
  have h3 := len_pos.2 hb
  have h4 : len (b * 2 ^ d) = len b - 1 + d + 1 := by
    apply len_eq
    · rw [Nat.pow_add]; exact Nat.mul_le_mul_right _ h1
    · rw [show len b - 1 + d + 1 = len b + d from by omega, Nat.pow_add]
      exact Nat.mul_lt_mul_of_pos_right h2 (Nat.two_pow_pos d)
  omega

theorem div_round_len {b a : Nat} (hb : b ≠ 0) (hl : len b ≤ len a) : len (a ^^^ b * 2 ^ (len a - len b)) < len a := by
  have h1 := len_shift hb (len a - len b)
  have h3 := len_pos.2 hb
  exact len_xor_lt (by omega) (len_pos.1 (by omega))

theorem divInv_round {A b q a : Nat} (hb : b ≠ 0) (hl : len b ≤ len a) (h : DivInv A b q a) :
    DivInv A b (q ||| 2 ^ (len a - len b)) (a ^^^ b * 2 ^ (len a - len b)) := by
  obtain ⟨e, hq⟩ := h
  have hq' := hq hl
  have hlt := div_round_len hb hl
  rw [or_pow hq']
  refine ⟨?_, fun hl' => ?_⟩
  · rw [xor_mul, mul_comm (2 ^ _) b, mul_pow, xor4, Nat.xor_self, Nat.xor_zero, ← e]
  · have hd : len (a ^^^ b * 2 ^ (len a - len b)) - len b + 1 ≤ len a - len b := by omega
    have hdv : ∀ x, x % 2 ^ (len a - len b) = 0 → x % 2 ^ (len (a ^^^ b * 2 ^ (len a - len b)) - len b + 1) = 0 := by
      intro x hx
      exact Nat.mod_eq_zero_of_dvd (Nat.dvd_trans (Nat.pow_dvd_pow 2 hd) (Nat.dvd_of_mod_eq_zero hx))
    apply hdv
    rw [xor_mod_pow, Nat.mod_self, Nat.xor_zero]
    exact Nat.mod_eq_zero_of_dvd (Nat.dvd_trans (Nat.pow_dvd_pow 2 (by omega)) (Nat.dvd_of_mod_eq_zero hq'))

theorem divInv_end {A b q a : Nat} (h : DivInv A b q a) (hl : len a < len b) : div A b = q ∧ mod A b = a := div_mod_of ⟨h.1, hl⟩

theorem divInv_q {A b q a : Nat} (hA : A < 2 ^ 64) (ha : a < 2 ^ 64) (hb : b ≠ 0) (h : DivInv A b q a) : q < 2 ^ 64 := by
  have h1 : mul q b = A ^^^ a := by rw [h.1, Nat.xor_assoc, Nat.xor_self, Nat.xor_zero]
  by_cases hq : q = 0
  · subst hq; exact Nat.two_pow_pos 64
  · have h2 := mul_ne_zero_len hq hb
    have h3 := len_le.2 (xor_lt hA ha)
    rw [← h1] at h3
    have h4 := len_pos.2 hb
    exact len_le.1 (by omega)

theorem pow_shift_lt {b a : Nat} (ha : a < 2 ^ 64) (hb : b ≠ 0) (hl : len b ≤ len a) : b * 2 ^ (len a - len b) < 2 ^ 64 := by
  rw [← len_le, len_shift hb]
  have := len_le.2 ha
  omega
theorem pow_lt {b a : Nat} (ha : a < 2 ^ 64) (hb : b ≠ 0) (hl : len b ≤ len a) : 2 ^ (len a - len b) < 2 ^ 64 := by
  have := len_le.2 ha
  have := len_pos.2 hb
  exact Nat.pow_lt_pow_right (by omega) (by omega)

theorem lt_of_len_lt {a b : Nat} (h : len a < len b) : a < b := by
  apply Nat.lt_of_not_le
  intro hle
  have := len_le.2 (Nat.lt_of_le_of_lt hle (lt_len a))
  omega

theorem eq_xor {a x y : Nat} (h : a = x ^^^ y) : x = a ^^^ y := by rw [h, Nat.xor_assoc, Nat.xor_self, Nat.xor_zero]
theorem mod_lt {a b : Nat} (hb : b ≠ 0) (h : b < 2 ^ 64) : mod a b < 2 ^ 64 := Nat.lt_trans (lt_of_len_lt (mod_len a hb)) h
theorem div_lt {a b : Nat} (hb : b ≠ 0) (ha : a < 2 ^ 64) : div a b < 2 ^ 64 := by
  have h := isDiv a hb
  by_cases hq : div a b = 0
  · rw [hq]; exact Nat.two_pow_pos 64
  · have h2 := mul_ne_zero_len hq hb
    have h1 : mul (div a b) b = a ^^^ mod a b := eq_xor h.1
    have h3 := len_xor_le a (mod a b)
    rw [← h1] at h3
    have h4 := len_le.2 ha
    have h5 := h.2
    have h6 := len_pos.2 hb
    have h7 := len_pos.2 hq
    exact len_le.1 (by omega)

/-! one round of MulMod: the whole is P, its upper half isn't nought -/
theorem len_hi {P : Nat} (h : hi P ≠ 0) : len P = 64 + len (hi P) := by
  have h1 := le_of_len h
  have h2 := lt_len (hi P)
  have h3 := len_pos.2 h
  have h4 : len P = 63 + len (hi P) + 1 := by
    apply len_eq
    · rw [show 63 + len (hi P) = (len (hi P) - 1) + 64 from by omega, Nat.pow_add]
      exact Nat.le_trans (Nat.mul_le_mul_right _ h1) (Nat.div_mul_le_self P (2 ^ 64))
    · rw [show 63 + len (hi P) + 1 = len (hi P) + 64 from by omega, Nat.pow_add]
      exact Nat.lt_mul_of_div_lt h2 (Nat.two_pow_pos 64)
  omega

theorem mulMod_round {P m : Nat} (hm : m ≠ 0) (h : hi P ≠ 0) (hm' : m ≤ 18446744073709551615) :
    hi (P ^^^ m * 2 ^ (64 + len (hi P) - len m)) < hi P ∧ mod (P ^^^ m * 2 ^ (64 + len (hi P) - len m)) m = mod P m := by
  have h1 := len_hi h
  have h2 := len_le64 hm'
  have h3 := len_pos.2 hm
  have h4 := len_pos.2 h
  have h5 := div_round_len (b := m) (a := P) hm (by omega)
  rw [h1] at h5
  constructor
  · apply lt_of_len_lt
    by_cases h6 : hi (P ^^^ m * 2 ^ (64 + len (hi P) - len m)) = 0
    · rw [h6, len_zero]; exact h4
    · have := len_hi h6; omega
  · rw [mod_xor, ← mul_pow, mul_comm, mod_mul_self _ _ hm, Nat.xor_zero]

/-- The sum of many. -/
def sum (l : List Nat) : Nat := l.foldl (· ^^^ ·) 0
theorem sum_nil : sum [] = 0 := rfl
theorem sum_snoc (l : List Nat) (x : Nat) : sum (l ++ [x]) = sum l ^^^ x := by simp [sum, List.foldl_append]
theorem foldl_xor (l : List Nat) : ∀ a, l.foldl (· ^^^ ·) a = a ^^^ sum l := by
  induction l with
  | nil => intro a; simp [sum]
  | cons x t ih => intro a; rw [List.foldl_cons, ih]; simp only [sum, List.foldl_cons]; rw [ih (0 ^^^ x), Nat.zero_xor, Nat.xor_assoc]; rfl
theorem sum_append (l k : List Nat) : sum (l ++ k) = sum l ^^^ sum k := by
  rw [sum, List.foldl_append, foldl_xor]; rfl
theorem sum_lt (l : List Nat) (h : ∀ x ∈ l, x < 2 ^ 64) : sum l < 2 ^ 64 := by
  have key : ∀ (l : List Nat) (a : Nat), a < 2 ^ 64 → (∀ x ∈ l, x < 2 ^ 64) → l.foldl (· ^^^ ·) a < 2 ^ 64 := by
    intro l
    induction l with
    | nil => intro a ha _; exact ha
    | cons x t ih => intro a ha h; exact ih _ (xor_lt ha (h x (by simp))) (fun y hy => h y (by simp [hy]))
  exact key l 0 (Nat.two_pow_pos 64) h

/-- The greatest that divides all of a row. -/
noncomputable def gcdL (l : List Nat) : Nat := l.foldl gcd 0
theorem gcdL_snoc (l : List Nat) (x : Nat) : gcdL (l ++ [x]) = gcd (gcdL l) x := by simp [gcdL, List.foldl_append]
theorem gcd_le {a b : Nat} (ha : a ≤ 18446744073709551615) (hb : b ≤ 18446744073709551615) : gcd a b ≤ 18446744073709551615 := by
  by_cases h : b = 0
  · subst h; rw [gcd_zero]; exact ha
  · have h1 := dv_len (gcd_right a b) h
    have h2 := len_le64 hb
    have h3 : gcd a b < 2 ^ 64 := len_le.1 (by omega)
    omega

/-- What Prime asks. -/
def PrimeSpec (p : Nat) : Prop := (len p = 2) ∨ (3 ≤ len p ∧ ∀ i, 1 ≤ i → i ≤ (len p - 1) / 2 → gcd (sq p i ^^^ 2) p = 1)
open Classical in
noncomputable def isPrime (p : Nat) : Bool := decide (PrimeSpec p)
theorem isPrime_true {p : Nat} : isPrime p = true ↔ PrimeSpec p := by unfold isPrime; simp
theorem isPrime_false {p : Nat} : isPrime p = false ↔ ¬ PrimeSpec p := by unfold isPrime; simp
theorem sq_le {p : Nat} (hp : p ≠ 0) (h : p ≤ 18446744073709551615) (i : Nat) : sq p i ≤ 18446744073709551615 := by
  cases i with
  | zero => exact (by decide : (2 : Nat) ≤ 18446744073709551615)
  | succ i =>
    have := mod_lt (a := mul (sq p i) (sq p i)) hp (by omega)
    rw [sq]; omega

/-! squares -/
theorem sq_xor (p q : Nat) : mul (p ^^^ q) (p ^^^ q) = mul p p ^^^ mul q q := by
  rw [xor_mul, mul_xor, mul_xor, mul_comm q p, xor4, Nat.xor_comm (mul p q), xor4, Nat.xor_self, Nat.xor_zero]
theorem sq_step (p : Nat) : mul p p = (if p % 2 = 1 then 1 else 0) ^^^ 4 * mul (p / 2) (p / 2) := by
  have h : mul p p = mul ((if p % 2 = 1 then 1 else 0) ^^^ 2 * (p / 2)) ((if p % 2 = 1 then 1 else 0) ^^^ 2 * (p / 2)) := by rw [← bits p]
  rw [h, sq_xor, mul_two, mul_double]
  have h4 : 2 * (2 * mul (p / 2) (p / 2)) = 4 * mul (p / 2) (p / 2) := by omega
  rw [h4]
  split
  · rw [mul_one]
  · rw [mul_zero]
theorem sq_mod4 (p : Nat) : mul p p % 2 = p % 2 ∧ mul p p / 2 % 2 = 0 ∧ mul p p / 4 = mul (p / 2) (p / 2) := by
  have h := sq_step p
  have hx : ∀ c m : Nat, c ≤ 1 → c ^^^ 4 * m = c + 4 * m := by
    intro c m hc
    have : c = 0 ∨ c = 1 := by omega
    rcases this with rfl | rfl
    · simp
    · have h1 := add_pow_xor (x := 0) (k := 0) (by simp)
      apply Nat.eq_of_testBit_eq
      intro i
      cases i with
      | zero => rw [Nat.testBit_xor, Nat.testBit_zero, Nat.testBit_zero, Nat.testBit_zero, show (4 * m) % 2 = 0 from by omega, show (1 + 4 * m) % 2 = 1 from by omega]; rfl
      | succ i => rw [Nat.testBit_xor, Nat.testBit_succ, Nat.testBit_succ, Nat.testBit_succ, show (1 + 4 * m) / 2 = 4 * m / 2 from by omega]; simp
  rw [hx _ _ (by split <;> omega)] at h
  rcases Nat.mod_two_eq_zero_or_one p with h0 | h0
  · rw [if_neg (by omega)] at h; omega
  · rw [if_pos h0] at h; omega
theorem sq_bits (i : Nat) : ∀ p, mul p p / 2 ^ (2 * i) % 2 = p / 2 ^ i % 2 ∧ mul p p / 2 ^ (2 * i + 1) % 2 = 0 := by
  induction i with
  | zero => intro p; have := sq_mod4 p; simp; exact ⟨this.1, this.2.1⟩
  | succ i ih =>
    intro p
    obtain ⟨h1, h2⟩ := ih (p / 2)
    have h3 := (sq_mod4 p).2.2
    have e1 : (2 : Nat) ^ (2 * (i + 1)) = 4 * 2 ^ (2 * i) := by rw [show 2 * (i + 1) = 2 * i + 2 from by omega, Nat.pow_add]; omega
    have e2 : (2 : Nat) ^ (2 * (i + 1) + 1) = 4 * 2 ^ (2 * i + 1) := by rw [show 2 * (i + 1) + 1 = (2 * i + 1) + 2 from by omega, Nat.pow_add]; omega
    have e3 : (2 : Nat) ^ (i + 1) = 2 * 2 ^ i := by rw [Nat.pow_succ]; omega
    rw [e1, e2, e3, ← Nat.div_div_eq_div_mul, ← Nat.div_div_eq_div_mul, ← Nat.div_div_eq_div_mul, h3]
    exact ⟨h1, h2⟩

/-! the document's product: bit by bit -/
theorem bit_mod_next (b k : Nat) : b % 2 ^ (k + 1) = if b.testBit k then b % 2 ^ k ^^^ 2 ^ k else b % 2 ^ k := by
  rw [mod_pow_next, Nat.testBit_eq_decide_div_mod_eq]
  by_cases h : b / 2 ^ k % 2 = 1
  · rw [if_pos h, if_pos (by simpa using h)]
  · rw [if_neg h, if_neg (by simpa using h)]
theorem shift_next (b i k : Nat) : (b % 2 ^ (k + 1)) * 2 ^ i = if b.testBit k then (b % 2 ^ k) * 2 ^ i ^^^ 2 ^ (i + k) else (b % 2 ^ k) * 2 ^ i := by
  rw [bit_mod_next]
  by_cases h : b.testBit k = true
  · rw [if_pos h, if_pos h, ← mul_pow, xor_mul, mul_pow, mul_pow, ← Nat.pow_add, Nat.add_comm k i]
  · rw [if_neg h, if_neg h]
theorem prod_next (a b i : Nat) : mul (a % 2 ^ (i + 1)) b = if a.testBit i then mul (a % 2 ^ i) b ^^^ b * 2 ^ i else mul (a % 2 ^ i) b := by
  rw [bit_mod_next]
  by_cases h : a.testBit i = true
  · rw [if_pos h, if_pos h, xor_mul, mul_comm (2 ^ i), mul_pow]
  · rw [if_neg h, if_neg h]
theorem toggle (x j i : Nat) : (x ^^^ 2 ^ j).testBit i = if i = j then !x.testBit j else x.testBit i := by
  rw [Nat.testBit_xor, Nat.testBit_two_pow]
  by_cases h : i = j
  · subst h; simp
  · rw [if_neg h]; simp [Ne.symm h]

/-! the document's rest: from the top down; s coefficients are still to be looked at -/
def LeftInv (P b s q x : Nat) : Prop := P = mul q b ^^^ x ∧ len x ≤ s ∧ (len b ≤ s → q % 2 ^ (s - len b + 1) = 0)
theorem leftInv_begin (P b n : Nat) (h : len P ≤ n) : LeftInv P b n 0 P := ⟨by rw [zero_mul, Nat.zero_xor], h, fun _ => Nat.zero_mod _⟩
theorem mod_pow_le {q m n : Nat} (h : q % 2 ^ n = 0) (hm : m ≤ n) : q % 2 ^ m = 0 := Nat.mod_eq_zero_of_dvd (Nat.dvd_trans (Nat.pow_dvd_pow 2 hm) (Nat.dvd_of_mod_eq_zero h))
theorem len_of_bit {x s : Nat} (h : len x ≤ s) (hs : 1 ≤ s) (hb : x.testBit (s - 1) = true) : len x = s := by
  have := Nat.ge_two_pow_of_testBit hb
  have h2 := lt_len x
  rcases Nat.lt_or_ge (len x) s with h3 | h3
  · have h4 : 2 ^ len x ≤ 2 ^ (s - 1) := Nat.pow_le_pow_right (by omega) (by omega)
    omega
  · omega
theorem len_of_no_bit {x s : Nat} (h : len x ≤ s) (hs : 1 ≤ s) (hb : x.testBit (s - 1) = false) : len x ≤ s - 1 := by
  rw [len_le]
  apply Nat.lt_pow_two_of_testBit
  intro i hi
  by_cases e : i = s - 1
  · rw [e]; exact hb
  · exact Nat.testBit_lt_two_pow (Nat.lt_of_lt_of_le (lt_len x) (Nat.pow_le_pow_right (by omega) (by omega)))
theorem leftInv_yes {P b s q x : Nat} (hb : b ≠ 0) (h : LeftInv P b s q x) (hl : len b ≤ s) (hx : x.testBit (s - 1) = true) :
    LeftInv P b (s - 1) (q ^^^ 2 ^ (s - len b)) (x ^^^ b * 2 ^ (s - len b)) ∧ q.testBit (s - len b) = false := by
  have hp := len_pos.2 hb
  obtain ⟨e, h1, h2⟩ := h
  have hlx := len_of_bit h1 (by omega) hx
  have hd := div_round_len hb (by omega : len b ≤ len x)
  rw [hlx] at hd
  have hq := h2 hl
  refine ⟨⟨?_, by omega, fun hl' => ?_⟩, ?_⟩
  · rw [xor_mul, mul_comm (2 ^ _) b, mul_pow, xor4, Nat.xor_self, Nat.xor_zero, ← e]
  · rw [show s - 1 - len b + 1 = s - len b from by omega, xor_mod_pow, Nat.mod_self, Nat.xor_zero]
    exact mod_pow_le hq (by omega)
  · have h3 : (q % 2 ^ (s - len b + 1)).testBit (s - len b) = (decide (s - len b < s - len b + 1) && q.testBit (s - len b)) := Nat.testBit_mod_two_pow q _ _
    rw [hq, Nat.zero_testBit] at h3
    simpa using h3.symm
theorem leftInv_no {P b s q x : Nat} (hb : b ≠ 0) (h : LeftInv P b s q x) (hl : len b ≤ s) (hx : x.testBit (s - 1) = false) : LeftInv P b (s - 1) q x := by
  have hp := len_pos.2 hb
  obtain ⟨e, h1, h2⟩ := h
  exact ⟨e, len_of_no_bit h1 (by omega) hx, fun _ => mod_pow_le (h2 hl) (by omega)⟩
theorem leftInv_end {P b s q x : Nat} (h : LeftInv P b s q x) (hl : s < len b) : div P b = q ∧ mod P b = x := div_mod_of ⟨h.1, by have := h.2.1; omega⟩

/-- What the document's Prime asks: nothing of a lower degree, up to half, divides. -/
def RefPrime (p : Nat) : Prop := 2 ≤ len p ∧ ∀ q, 2 ≤ q → (len q - 1) ≤ (len p - 1) / 2 → mod p q ≠ 0
open Classical in
noncomputable def isRefPrime (p : Nat) : Bool := decide (RefPrime p)
theorem isRefPrime_true {p : Nat} : isRefPrime p = true ↔ RefPrime p := by unfold isRefPrime; simp
theorem isRefPrime_false {p : Nat} : isRefPrime p = false ↔ ¬ RefPrime p := by unfold isRefPrime; simp
theorem len_mono {a b : Nat} (h : a ≤ b) : len a ≤ len b := len_le.2 (Nat.lt_of_le_of_lt h (lt_len b))
end Go.Proofs.YtcdbffgmgfblkaaDoor.Pol
