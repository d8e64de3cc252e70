/- Plain laws of the rolling sum: one byte further is the rest of the sum, eight times doubled, and the byte; the rests of all bytes serve for what goes beyond the degree. -/
import Derived.Test.YtcdbffgmgfblkaaDoorPolA
namespace Go.Proofs.YtcdbffgmgfblkaaDoor.Pol
set_option linter.unusedVariables false
set_option linter.unusedSimpArgs false

/-- The rest of a byte times x^degree. -/
noncomputable def over (m i : Nat) : Nat := mod (mul i (mod (2 ^ (len m - 1)) m)) m
/-- One byte further. -/
noncomputable def nxt (m s x : Nat) : Nat := mod (s * 2 ^ 8 ^^^ x) m

theorem xor_rc (a b c : Nat) : a ^^^ b ^^^ c = a ^^^ c ^^^ b := by rw [Nat.xor_assoc, Nat.xor_comm b c, ← Nat.xor_assoc]
theorem nxt_over {m s x : Nat} (hd : 9 ≤ len m) (hs : len s < len m) (hx : x < 256) :
    (s % 2 ^ (len m - 1 - 8)) * 2 ^ 8 ^^^ x ^^^ over m (s / 2 ^ (len m - 1 - 8)) = nxt m s x := by
  have hm : m ≠ 0 := len_pos.1 (by omega)
  have e : s * 2 ^ 8 = (s % 2 ^ (len m - 1 - 8)) * 2 ^ 8 ^^^ (s / 2 ^ (len m - 1 - 8)) * 2 ^ (len m - 1) := by
    have h1 : (s / 2 ^ (len m - 1 - 8)) * 2 ^ (len m - 1 - 8) ^^^ s % 2 ^ (len m - 1 - 8) = s := by
      rw [← mul_pow]
      apply Nat.eq_of_testBit_eq
      intro i
      rw [Nat.testBit_xor, mul_pow, Nat.testBit_mod_two_pow, Nat.testBit_mul_two_pow, Nat.testBit_div_two_pow]
      by_cases h : len m - 1 - 8 ≤ i
      · simp [h, Nat.not_lt.2 h, Nat.sub_add_cancel h]
      · simp [h, Nat.lt_of_not_le h]
    have h2 : s * 2 ^ 8 = mul s (2 ^ 8) := (mul_pow s 8).symm
    rw [h2]
    have h3 : mul s (2 ^ 8) = mul ((s / 2 ^ (len m - 1 - 8)) * 2 ^ (len m - 1 - 8) ^^^ s % 2 ^ (len m - 1 - 8)) (2 ^ 8) := by rw [h1]
    rw [h3, xor_mul, mul_pow, mul_pow, Nat.mul_assoc, ← Nat.pow_add, show len m - 1 - 8 + 8 = len m - 1 from by omega, Nat.xor_comm]
  have hlow : len ((s % 2 ^ (len m - 1 - 8)) * 2 ^ 8 ^^^ x) < len m := by
    have h1 : (s % 2 ^ (len m - 1 - 8)) * 2 ^ 8 < 2 ^ (len m - 1) := by
      have := Nat.mod_lt s (Nat.two_pow_pos (len m - 1 - 8))
      calc (s % 2 ^ (len m - 1 - 8)) * 2 ^ 8 < 2 ^ (len m - 1 - 8) * 2 ^ 8 := Nat.mul_lt_mul_of_pos_right this (by decide)
        _ = 2 ^ (len m - 1) := by rw [← Nat.pow_add]; congr 1; omega
    have h2 : x < 2 ^ (len m - 1) := Nat.lt_of_lt_of_le hx (Nat.le_trans (by decide : 256 ≤ 2 ^ 8) (Nat.pow_le_pow_right (by omega) (by omega)))
    have := len_le.2 (xor_lt h1 h2)
    omega
  unfold nxt over
  rw [e, xor_rc _ _ x, mod_xor, mod_of_lt hlow, ← mul_pow _ (len m - 1), mod_mul_right]

theorem nxt_len (m s x : Nat) (hm : m ≠ 0) : len (nxt m s x) < len m := mod_len _ hm
theorem nxt_zero (m : Nat) (hm : m ≠ 0) : nxt m 0 0 = 0 := by
  unfold nxt
  simp only [Nat.zero_mul, Nat.xor_self]
  exact mod_of_lt (by rw [len_zero]; exact len_pos.2 hm)
theorem nxt_xor (m s t x y : Nat) : nxt m (s ^^^ t) (x ^^^ y) = nxt m s x ^^^ nxt m t y := by
  unfold nxt
  rw [← mul_pow, xor_mul, mul_pow, mul_pow, xor4, mod_xor]
theorem nxt_mod (m s x : Nat) : nxt m (mod s m) x = nxt m s x := by
  unfold nxt
  rw [mod_xor, mod_xor, ← mul_pow, mod_mul_left, mul_pow]

/-- The sum of bytes, from s on. -/
noncomputable def roll (m : Nat) (s : Nat) (l : List Nat) : Nat := l.foldl (nxt m) s
theorem roll_nil (m s : Nat) : roll m s [] = s := rfl
theorem roll_snoc (m s : Nat) (l : List Nat) (x : Nat) : roll m s (l ++ [x]) = nxt m (roll m s l) x := by simp [roll, List.foldl_append]
theorem roll_append (m s : Nat) (l k : List Nat) : roll m s (l ++ k) = roll m (roll m s l) k := by simp [roll, List.foldl_append]
theorem roll_cons (m s x : Nat) (l : List Nat) : roll m s (x :: l) = roll m (nxt m s x) l := rfl
theorem roll_len (m : Nat) (hm : m ≠ 0) (l : List Nat) : ∀ s, len s < len m → len (roll m s l) < len m := by
  induction l with
  | nil => intro s h; exact h
  | cons x l ih => intro s _; exact ih _ (nxt_len m s x hm)
/-- Sums of rows of one length. -/
theorem roll_xor (m : Nat) : ∀ (l k : List Nat), l.length = k.length → ∀ s t, roll m (s ^^^ t) (List.zipWith (· ^^^ ·) l k) = roll m s l ^^^ roll m t k
  | [], [], _, s, t => rfl
  | x :: l, y :: k, h, s, t => by
    rw [List.zipWith_cons_cons, roll_cons, roll_cons, roll_cons, nxt_xor]
    exact roll_xor m l k (by simpa using h) _ _
  | [], _ :: _, h, _, _ => by simp at h
  | _ :: _, [], h, _, _ => by simp at h
/-- The sum from s on is the sum from nought on, and s as far up as the bytes reach. -/
theorem roll_zeros (m : Nat) (n : Nat) : ∀ s, len s < len m → roll m s (List.replicate n 0) = mod (s * 2 ^ (8 * n)) m := by
  induction n with
  | zero => intro s h; simp only [Nat.mul_zero, Nat.pow_zero, Nat.mul_one]; exact (mod_of_lt h).symm
  | succ n ih =>
    intro s h
    have hm : m ≠ 0 := len_pos.1 (by omega)
    rw [List.replicate_succ, roll_cons, ih _ (nxt_len m s 0 hm)]
    unfold nxt
    rw [Nat.xor_zero, ← mul_pow, mod_mul_left, mul_pow, Nat.mul_assoc, ← Nat.pow_add, show 8 + 8 * n = 8 * (n + 1) from by omega]
theorem xor_zeros (l : List Nat) : List.zipWith (· ^^^ ·) (List.replicate l.length 0) l = l := by
  induction l with
  | nil => rfl
  | cons x l ih => rw [List.length_cons, List.replicate_succ, List.zipWith_cons_cons, ih, Nat.zero_xor]
theorem roll_from (m s : Nat) (l : List Nat) (h : len s < len m) : roll m s l = mod (s * 2 ^ (8 * l.length)) m ^^^ roll m 0 l := by
  have := roll_xor m (List.replicate l.length 0) l (by simp) s 0
  rw [Nat.xor_zero, xor_zeros, roll_zeros m _ s h] at this
  exact this
theorem roll_lead (m : Nat) (hm : m ≠ 0) (l : List Nat) : roll m 0 (0 :: l) = roll m 0 l := by rw [roll_cons, nxt_zero m hm]

/-! bit by bit -/
theorem double_xor (s c : Nat) (hc : c ≤ 1) : s * 2 ^^^ c = s * 2 + c := by
  have : c = 0 ∨ c = 1 := by omega
  rcases this with rfl | rfl
  · simp
  · apply Nat.eq_of_testBit_eq
    intro i
    cases i with
    | zero => rw [Nat.testBit_xor, Nat.testBit_zero, Nat.testBit_zero, Nat.testBit_zero, show s * 2 % 2 = 0 from by omega, show (s * 2 + 1) % 2 = 1 from by omega]; rfl
    | succ i => rw [Nat.testBit_xor, Nat.testBit_succ, Nat.testBit_succ, Nat.testBit_succ, show (s * 2 + 1) / 2 = s * 2 / 2 from by omega]; simp
theorem len_double_add {s c : Nat} (hc : c ≤ 1) : len (s * 2 + c) ≤ len s + 1 := by
  rw [len_le]
  have := lt_len s
  rw [Nat.pow_succ]; omega
theorem bit_step {m s c : Nat} (hm : 2 ≤ len m) (hs : len s < len m) (hc : c ≤ 1) :
    mod (s * 2 ^^^ c) m = if s / 2 ^ (len m - 2) % 2 = 1 then (s * 2 ^^^ c) ^^^ m else s * 2 ^^^ c := by
  have hm0 : m ≠ 0 := len_pos.1 (by omega)
  have h1 := len_double_add (s := s) hc
  rw [← double_xor s c hc] at h1
  split
  · rename_i hb
    have hbit : s.testBit (len m - 2) = true := by rw [Nat.testBit_eq_decide_div_mod_eq]; simpa using hb
    have h2 := len_of_bit (x := s) (s := len m - 1) (by omega) (by omega) (by rw [show len m - 1 - 1 = len m - 2 from by omega]; exact hbit)
    have h3 : len (s * 2 ^^^ c) = len m := by
      have h4 : s ≠ 0 := len_pos.1 (by omega)
      have h5 := le_of_len h4
      have h6 : 2 ^ (len s) ≤ s * 2 ^^^ c := by
        rw [double_xor s c hc]
        have : 2 ^ len s = 2 ^ (len s - 1) * 2 := by rw [← Nat.pow_succ]; congr 1; omega
        omega
      have h7 := lt_len (s * 2 ^^^ c)
      rcases Nat.lt_or_ge (len (s * 2 ^^^ c)) (len s + 1) with h | h
      · have := Nat.pow_le_pow_right (n := 2) (by omega) (show len (s * 2 ^^^ c) ≤ len s by omega)
        omega
      · omega
    have h8 := len_xor_lt h3 (len_pos.1 (by omega))
    have h9 : mod (s * 2 ^^^ c) m = mod ((s * 2 ^^^ c) ^^^ m) m := by
      have : mod m m = 0 := by have := mod_mul_self 1 m hm0; rwa [one_mul] at this
      rw [mod_xor _ m, this, Nat.xor_zero]
    rw [h9]; exact mod_of_lt (by omega)
  · rename_i hb
    have hbit : s.testBit (len m - 2) = false := by rw [Nat.testBit_eq_decide_div_mod_eq]; simpa using hb
    have h2 := len_of_no_bit (x := s) (s := len m - 1) (by omega) (by omega) (by rw [show len m - 1 - 1 = len m - 2 from by omega]; exact hbit)
    exact mod_of_lt (by omega)
/-- j bits of the byte x more. -/
noncomputable def half (m s x j : Nat) : Nat := mod (s * 2 ^ j ^^^ x / 2 ^ (8 - j)) m
theorem half_zero {m s x : Nat} (hs : len s < len m) (hx : x ≤ 255) : half m s x 0 = s := by
  unfold half
  rw [Nat.pow_zero, Nat.mul_one, show x / 2 ^ (8 - 0) = 0 from Nat.div_eq_of_lt (by omega), Nat.xor_zero]
  exact mod_of_lt hs
theorem half_all (m s x : Nat) : half m s x 8 = nxt m s x := by
  unfold half nxt
  rw [show 8 - 8 = 0 from rfl, Nat.pow_zero, Nat.div_one]
theorem half_step {m s x j : Nat} (hj : j < 8) : half m s x (j + 1) = mod (half m s x j * 2 ^^^ x / 2 ^ (7 - j) % 2) m := by
  unfold half
  have e : s * 2 ^ (j + 1) ^^^ x / 2 ^ (8 - (j + 1)) = (s * 2 ^ j ^^^ x / 2 ^ (8 - j)) * 2 ^^^ x / 2 ^ (7 - j) % 2 := by
    have h1 : x / 2 ^ (8 - (j + 1)) = x / 2 ^ (8 - j) * 2 ^^^ x / 2 ^ (7 - j) % 2 := by
      rw [double_xor _ _ (by omega), show 8 - (j + 1) = 7 - j from by omega, show 8 - j = 7 - j + 1 from by omega, Nat.pow_succ, ← Nat.div_div_eq_div_mul]
      omega
    have h2 : ∀ y : Nat, y * 2 = mul y 2 := fun y => by have := mul_pow y 1; rw [Nat.pow_one] at this; exact this.symm
    rw [h1, Nat.pow_succ, ← Nat.mul_assoc, h2 (s * 2 ^ j), h2 (x / 2 ^ (8 - j)), h2 (_ ^^^ _), xor_mul, Nat.xor_assoc]
  rw [e, mod_xor _ (x / 2 ^ (7 - j) % 2), mod_xor _ (x / 2 ^ (7 - j) % 2)]
  congr 1
  have h2 : ∀ y : Nat, y * 2 = mul y (2 ^ 1) := fun y => by rw [mul_pow, Nat.pow_one]
  rw [h2, h2, mod_mul_left]
end Go.Proofs.YtcdbffgmgfblkaaDoor.Pol
