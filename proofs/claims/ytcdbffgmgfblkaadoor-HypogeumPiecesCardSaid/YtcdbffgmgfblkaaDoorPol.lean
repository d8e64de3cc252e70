/- Plain laws of polynomials over bits: products, rests, the greatest divisor, and that each polynomial is its own power, 2^degree far, modulo one that nothing divides. -/
import Init
namespace Go.Proofs.YtcdbffgmgfblkaaDoor.Pol
set_option linter.unusedVariables false
set_option linter.unusedSimpArgs false

theorem two_xor (x y : Nat) : 2 * (x ^^^ y) = (2 * x) ^^^ (2 * y) := by
  have h : ∀ z : Nat, 2 * z = z <<< 1 := fun z => by rw [Nat.shiftLeft_eq]; omega
  rw [h, h x, h y, Nat.shiftLeft_xor_distrib]

/-- The product of two polynomials. -/
def mul (a b : Nat) : Nat := if h : b = 0 then 0 else (if b % 2 = 1 then a else 0) ^^^ (2 * mul a (b / 2))
termination_by b
decreasing_by omega

theorem mul_zero (a : Nat) : mul a 0 = 0 := by rw [mul]; simp
theorem mul_step (a b : Nat) : mul a b = (if b % 2 = 1 then a else 0) ^^^ (2 * mul a (b / 2)) := by
  by_cases h : b = 0
  · subst h; simp [mul_zero]
  · rw [mul]; simp [h]

theorem xor_div2 (x y : Nat) : (x ^^^ y) / 2 = (x / 2) ^^^ (y / 2) := by
  have h : ∀ z : Nat, z / 2 = z >>> 1 := fun z => by rw [Nat.shiftRight_eq_div_pow]
  rw [h, h x, h y, Nat.shiftRight_xor_distrib]

theorem xor_mod2 (x y : Nat) : (x ^^^ y) % 2 = (x % 2 + y % 2) % 2 := by
  have hx := Nat.mod_two_eq_zero_or_one x
  have hy := Nat.mod_two_eq_zero_or_one y
  have h : ∀ z : Nat, z % 2 = z % 2 ^ 1 := fun z => by simp
  rw [h (x ^^^ y), Nat.xor_mod_two_pow, ← h, ← h]
  rcases hx with hx | hx <;> rcases hy with hy | hy <;> simp [hx, hy]

theorem zero_mul (b : Nat) : mul 0 b = 0 := by
  induction b using Nat.strongRecOn with
  | _ b ih =>
    by_cases h : b = 0
    · subst h; exact mul_zero 0
    · rw [mul_step, ih (b / 2) (by omega)]; simp

theorem mul_double (a b : Nat) : mul (2 * a) b = 2 * mul a b := by
  induction b using Nat.strongRecOn with
  | _ b ih =>
    by_cases h : b = 0
    · subst h; simp [mul_zero]
    · rw [mul_step, ih (b / 2) (by omega), mul_step a b, two_xor]
      split <;> simp

theorem xor4 (a b c d : Nat) : (a ^^^ b) ^^^ (c ^^^ d) = (a ^^^ c) ^^^ (b ^^^ d) := by
  rw [Nat.xor_assoc, ← Nat.xor_assoc b c d, Nat.xor_comm b c, Nat.xor_assoc c b d, ← Nat.xor_assoc]

theorem xor_mul (x y b : Nat) : mul (x ^^^ y) b = mul x b ^^^ mul y b := by
  induction b using Nat.strongRecOn with
  | _ b ih =>
    by_cases h : b = 0
    · subst h; simp [mul_zero]
    · rw [mul_step, ih (b / 2) (by omega), mul_step x b, mul_step y b, two_xor, xor4]
      split <;> simp

theorem bits (a : Nat) : a = (if a % 2 = 1 then 1 else 0) ^^^ (2 * (a / 2)) := by
  have h2 : 2 * (a / 2) = a - a % 2 := by omega
  apply Nat.eq_of_testBit_eq
  intro i
  cases i with
  | zero =>
    rw [Nat.testBit_xor, Nat.testBit_zero, Nat.testBit_zero, Nat.testBit_zero, show 2 * (a / 2) % 2 = 0 from by omega]
    split <;> simp [*]
  | succ i =>
    rw [Nat.testBit_succ, Nat.testBit_succ, xor_div2, show 2 * (a / 2) / 2 = a / 2 from by omega]
    split <;> simp

theorem mul_one (a : Nat) : mul a 1 = a := by rw [mul_step, mul_zero]; simp
theorem one_mul (a : Nat) : mul 1 a = a := by
  induction a using Nat.strongRecOn with
  | _ b ih =>
    by_cases h : b = 0
    · subst h; simp [mul_zero]
    · rw [mul_step, ih (b / 2) (by omega), ← bits]

theorem mul_comm (a b : Nat) : mul a b = mul b a := by
  induction b using Nat.strongRecOn with
  | _ b ih =>
    by_cases h : b = 0
    · subst h; rw [mul_zero, zero_mul]
    · have hb : mul b a = mul ((if b % 2 = 1 then 1 else 0) ^^^ (2 * (b / 2))) a := by rw [← bits b]
      rw [mul_step, ih (b / 2) (by omega), hb, xor_mul, mul_double]
      split
      · rw [one_mul]
      · rw [zero_mul]

theorem mul_xor (a x y : Nat) : mul a (x ^^^ y) = mul a x ^^^ mul a y := by
  rw [mul_comm, xor_mul, mul_comm x, mul_comm y]

theorem mul_two (a b : Nat) : mul a (2 * b) = 2 * mul a b := by
  rw [mul_comm, mul_double, mul_comm]

theorem mul_assoc (a b c : Nat) : mul (mul a b) c = mul a (mul b c) := by
  induction c using Nat.strongRecOn with
  | _ c ih =>
    by_cases h : c = 0
    · subst h; simp [mul_zero]
    · rw [mul_step, ih (c / 2) (by omega), mul_step b c, mul_xor, mul_two]
      split
      · rfl
      · rw [mul_zero]

/-- How many bits: the degree and one. -/
def len (a : Nat) : Nat := if a = 0 then 0 else a.log2 + 1

theorem len_zero : len 0 = 0 := rfl
theorem lt_len (a : Nat) : a < 2 ^ len a := by
  unfold len
  split
  · subst_vars; simp
  · exact Nat.lt_log2_self
theorem len_le {a n : Nat} : len a ≤ n ↔ a < 2 ^ n := by
  unfold len
  split
  · rename_i h; subst h; simp [Nat.two_pow_pos]
  · rename_i h
    rw [← Nat.log2_lt h]; omega
theorem len_pos {a : Nat} : 0 < len a ↔ a ≠ 0 := by
  unfold len; split <;> simp_all
theorem le_of_len {a : Nat} (h : a ≠ 0) : 2 ^ (len a - 1) ≤ a := by
  apply Nat.le_of_not_lt; intro hh
  have := (len_le (a := a) (n := len a - 1)).2 hh
  have := (len_pos (a := a)).2 h
  omega
theorem len_eq {a n : Nat} (h1 : 2 ^ n ≤ a) (h2 : a < 2 ^ (n + 1)) : len a = n + 1 := by
  have a1 := (len_le (a := a) (n := n + 1)).2 h2
  have a2 : ¬ len a ≤ n := by rw [len_le]; omega
  omega

theorem len_double {a : Nat} (h : a ≠ 0) : len (2 * a) = len a + 1 := by
  have h1 := le_of_len h
  have h2 := lt_len a
  have h3 := len_pos.2 h
  apply len_eq
  · have : 2 ^ len a = 2 * 2 ^ (len a - 1) := by rw [← Nat.pow_succ']; congr 1; omega
    omega
  · rw [Nat.pow_succ]; omega

theorem xor_lt {x y n : Nat} (hx : x < 2 ^ n) (hy : y < 2 ^ n) : x ^^^ y < 2 ^ n := Nat.xor_lt_two_pow hx hy
theorem len_xor_le (x y : Nat) : len (x ^^^ y) ≤ max (len x) (len y) := by
  rw [len_le]
  exact xor_lt (len_le.1 (Nat.le_max_left ..)) (len_le.1 (Nat.le_max_right ..))

/-- The greater one tells. -/
theorem len_xor {x y : Nat} (h : len x < len y) : len (x ^^^ y) = len y := by
  have h1 := len_xor_le x y
  have h2 : len y ≤ max (len x) (len (x ^^^ y)) := by
    have := len_xor_le x (x ^^^ y)
    rwa [← Nat.xor_assoc, Nat.xor_self, Nat.zero_xor] at this
  omega

theorem len_xor' {x y : Nat} (h : len y < len x) : len (x ^^^ y) = len x := by rw [Nat.xor_comm, len_xor h]

/-- The same length, not both nought: the sum has less. -/
theorem len_xor_lt {x y : Nat} (h : len x = len y) (hx : x ≠ 0) : len (x ^^^ y) < len x := by
  have hp := len_pos.2 hx
  have hy : y ≠ 0 := len_pos.1 (h ▸ hp)
  have key : x ^^^ y < 2 ^ (len x - 1) := by
    apply Nat.lt_pow_two_of_testBit
    intro i hi
    rw [Nat.testBit_xor]
    by_cases e : i = len x - 1
    · have top : ∀ z : Nat, z ≠ 0 → len z = len x → z.testBit (len x - 1) = true := by
        intro z hz hl
        have a1 := le_of_len hz
        have a2 := lt_len z
        rw [hl] at a1 a2
        rw [Nat.testBit_eq_decide_div_mod_eq]
        have : z / 2 ^ (len x - 1) = 1 := by
          apply Nat.div_eq_of_lt_le
          · omega
          · have : 2 ^ len x = 2 * 2 ^ (len x - 1) := by rw [← Nat.pow_succ']; congr 1; omega
            omega
        simp [this]
      rw [e, top x hx rfl, top y hy h.symm]; rfl
    · have z1 : x.testBit i = false := Nat.testBit_lt_two_pow (Nat.lt_of_lt_of_le (lt_len x) (Nat.pow_le_pow_right (by omega) (by omega)))
      have z2 : y.testBit i = false := Nat.testBit_lt_two_pow (Nat.lt_of_lt_of_le (lt_len y) (Nat.pow_le_pow_right (by omega) (by omega)))
      rw [z1, z2]; rfl
  have := len_le.2 key
  omega

theorem mul_ne_zero_len {a b : Nat} (ha : a ≠ 0) (hb : b ≠ 0) : len (mul a b) + 1 = len a + len b := by
  induction b using Nat.strongRecOn with
  | _ b ih =>
    rw [mul_step]
    by_cases h : b / 2 = 0
    · have : b = 1 := by omega
      subst this
      rw [show (1 : Nat) / 2 = 0 from rfl, mul_zero]; simp
      rfl
    · have hl := ih (b / 2) (by omega) h
      have hm : mul a (b / 2) ≠ 0 := by
        intro e; rw [e, len_zero] at hl
        have := len_pos.2 ha; have := len_pos.2 h; omega
      have hd := len_double hm
      have hb2 : len b = len (b / 2) + 1 := by
        have h3 := le_of_len h
        have h4 := lt_len (b / 2)
        have h5 := len_pos.2 h
        have : len b = len (b / 2) - 1 + 1 + 1 := by
          apply len_eq
          · rw [Nat.pow_succ]; omega
          · rw [show len (b / 2) - 1 + 1 + 1 = len (b / 2) + 1 from by omega, Nat.pow_succ]; omega
        omega
      have h6 := len_pos.2 h
      split
      · rw [len_xor (by omega)]; omega
      · rw [Nat.zero_xor]; omega

theorem mul_ne_zero {a b : Nat} (ha : a ≠ 0) (hb : b ≠ 0) : mul a b ≠ 0 := by
  intro e
  have := mul_ne_zero_len ha hb
  rw [e, len_zero] at this
  have := len_pos.2 ha; have := len_pos.2 hb; omega

theorem mul_eq_zero {a b : Nat} : mul a b = 0 ↔ a = 0 ∨ b = 0 := by
  constructor
  · intro h
    by_cases ha : a = 0
    · exact Or.inl ha
    · by_cases hb : b = 0
      · exact Or.inr hb
      · exact absurd h (mul_ne_zero ha hb)
  · rintro (h | h) <;> subst h
    · exact zero_mul b
    · exact mul_zero a

theorem mul_pow (a n : Nat) : mul a (2 ^ n) = a * 2 ^ n := by
  induction n with
  | zero => simp [mul_one]
  | succ n ih => rw [Nat.pow_succ, Nat.mul_comm, mul_two, ih, Nat.mul_left_comm]

theorem xor_eq_zero {x y : Nat} : x ^^^ y = 0 ↔ x = y := by
  constructor
  · intro h
    have : x ^^^ y ^^^ y = 0 ^^^ y := by rw [h]
    rwa [Nat.xor_assoc, Nat.xor_self, Nat.xor_zero, Nat.zero_xor] at this
  · rintro rfl; exact Nat.xor_self x

theorem mul_cancel {a x y : Nat} (ha : a ≠ 0) (h : mul a x = mul a y) : x = y := by
  have : mul a (x ^^^ y) = 0 := by rw [mul_xor, h, Nat.xor_self]
  rcases mul_eq_zero.1 this with h | h
  · exact absurd h ha
  · exact xor_eq_zero.1 h

/-- a is x's rest by m, and q how often. -/
def IsDiv (a m q r : Nat) : Prop := a = mul q m ^^^ r ∧ len r < len m

theorem isDiv_unique {a m q r q' r' : Nat} (h : IsDiv a m q r) (h' : IsDiv a m q' r') : q = q' ∧ r = r' := by
  obtain ⟨e, l⟩ := h
  obtain ⟨e', l'⟩ := h'
  have hm : m ≠ 0 := len_pos.1 (by omega)
  have key : mul (q ^^^ q') m = r ^^^ r' := by
    rw [xor_mul]
    have : mul q m ^^^ r = mul q' m ^^^ r' := e ▸ e'
    have h2 : (mul q m ^^^ r) ^^^ (mul q' m ^^^ r') = 0 := xor_eq_zero.2 this
    rw [xor4] at h2
    exact xor_eq_zero.1 h2
  by_cases hq : q ^^^ q' = 0
  · rw [hq, zero_mul] at key
    exact ⟨xor_eq_zero.1 hq, xor_eq_zero.1 key.symm⟩
  · have h1 := mul_ne_zero_len hq hm
    rw [key] at h1
    have h2 := len_xor_le r r'
    have h3 := len_pos.2 hq
    omega

theorem exists_div (m : Nat) (hm : m ≠ 0) (a : Nat) : ∃ q r, IsDiv a m q r := by
  induction h : len a using Nat.strongRecOn generalizing a with
  | _ n ih =>
    subst h
    by_cases hl : len a < len m
    · exact ⟨0, a, by simp [zero_mul], hl⟩
    · have hmp := len_pos.2 hm
      have ha : a ≠ 0 := len_pos.1 (by omega)
      have h2 : mul (2 ^ (len a - len m)) m ≠ 0 := mul_ne_zero (by have := Nat.two_pow_pos (len a - len m); omega) hm
      have h3 := mul_ne_zero_len (a := 2 ^ (len a - len m)) (by have := Nat.two_pow_pos (len a - len m); omega) hm
      have h4 : len (2 ^ (len a - len m)) = len a - len m + 1 := len_eq (Nat.le_refl _) (by rw [Nat.pow_succ]; have := Nat.two_pow_pos (len a - len m); omega)
      have h5 : len a = len (mul (2 ^ (len a - len m)) m) := by omega
      have h6 := len_xor_lt h5 ha
      obtain ⟨q, r, e, l⟩ := ih _ h6 _ rfl
      refine ⟨q ^^^ 2 ^ (len a - len m), r, ?_, l⟩
      rw [xor_mul, Nat.xor_assoc, Nat.xor_comm _ r, ← Nat.xor_assoc, ← e, Nat.xor_assoc, Nat.xor_self, Nat.xor_zero]

noncomputable def mod (a m : Nat) : Nat := if hm : m = 0 then a else Classical.choose (Classical.choose_spec (exists_div m hm a))
noncomputable def div (a m : Nat) : Nat := if hm : m = 0 then 0 else Classical.choose (exists_div m hm a)

theorem isDiv (a : Nat) {m : Nat} (hm : m ≠ 0) : IsDiv a m (div a m) (mod a m) := by
  unfold mod div
  rw [dif_neg hm, dif_neg hm]
  exact Classical.choose_spec (Classical.choose_spec (exists_div m hm a))

theorem div_mod_of {a m q r : Nat} (h : IsDiv a m q r) : div a m = q ∧ mod a m = r := by
  have hm : m ≠ 0 := len_pos.1 (by have := h.2; omega)
  exact isDiv_unique (isDiv a hm) h

theorem mod_zero (a : Nat) : mod a 0 = a := by unfold mod; simp

theorem mod_len (a : Nat) {m : Nat} (hm : m ≠ 0) : len (mod a m) < len m := (isDiv a hm).2
theorem div_mod (a : Nat) {m : Nat} (hm : m ≠ 0) : a = mul (div a m) m ^^^ mod a m := (isDiv a hm).1

theorem isDiv_xor {a b m q r q' r' : Nat} (h : IsDiv a m q r) (h' : IsDiv b m q' r') : IsDiv (a ^^^ b) m (q ^^^ q') (r ^^^ r') := by
  refine ⟨by rw [xor_mul, xor4, ← h.1, ← h'.1], ?_⟩
  have := len_xor_le r r'
  have := h.2
  have := h'.2
  omega

theorem mod_xor (a b m : Nat) : mod (a ^^^ b) m = mod a m ^^^ mod b m := by
  by_cases hm : m = 0
  · subst hm; simp [mod_zero]
  · exact (div_mod_of (isDiv_xor (isDiv a hm) (isDiv b hm))).2

theorem mod_of_lt {a m : Nat} (h : len a < len m) : mod a m = a := (div_mod_of (q := 0) (r := a) ⟨by simp [zero_mul], h⟩).2
theorem mod_mul_self (q m : Nat) : m ≠ 0 → mod (mul q m) m = 0 := fun hm => (div_mod_of (q := q) (r := 0) ⟨by simp, by rw [len_zero]; exact len_pos.2 hm⟩).2
theorem mod_mod (a m : Nat) : mod (mod a m) m = mod a m := by
  by_cases hm : m = 0
  · subst hm; simp [mod_zero]
  · exact mod_of_lt (mod_len a hm)

theorem mod_mul_left (a b m : Nat) : mod (mul (mod a m) b) m = mod (mul a b) m := by
  by_cases hm : m = 0
  · subst hm; simp [mod_zero]
  · have e := div_mod a hm
    have : mul a b = mul (mul (div a m) b) m ^^^ mul (mod a m) b := by
      rw [mul_assoc, mul_comm b m, ← mul_assoc, ← xor_mul, ← e]
    rw [this, mod_xor, mod_mul_self _ _ hm, Nat.zero_xor]

theorem mod_mul_right (a b m : Nat) : mod (mul a (mod b m)) m = mod (mul a b) m := by rw [mul_comm, mod_mul_left, mul_comm]

/-- m divides a. -/
def Dv (m a : Nat) : Prop := ∃ q, a = mul q m

theorem dv_iff {m a : Nat} (hm : m ≠ 0) : Dv m a ↔ mod a m = 0 := by
  constructor
  · rintro ⟨q, rfl⟩; exact mod_mul_self q m hm
  · intro h; exact ⟨div a m, by have := div_mod a hm; rwa [h, Nat.xor_zero] at this⟩
theorem dv_zero (m : Nat) : Dv m 0 := ⟨0, (zero_mul m).symm⟩
theorem zero_dv {a : Nat} (h : Dv 0 a) : a = 0 := by obtain ⟨q, rfl⟩ := h; exact mul_zero q
theorem dv_refl (m : Nat) : Dv m m := ⟨1, (one_mul m).symm⟩
theorem one_dv (a : Nat) : Dv 1 a := ⟨a, (mul_one a).symm⟩
theorem dv_trans {a b c : Nat} (h : Dv a b) (h' : Dv b c) : Dv a c := by
  obtain ⟨q, rfl⟩ := h; obtain ⟨r, rfl⟩ := h'; exact ⟨mul r q, (mul_assoc r q a).symm⟩
theorem dv_xor {m a b : Nat} (h : Dv m a) (h' : Dv m b) : Dv m (a ^^^ b) := by
  obtain ⟨q, rfl⟩ := h; obtain ⟨r, rfl⟩ := h'; exact ⟨q ^^^ r, (xor_mul q r m).symm⟩
theorem dv_mul {m a : Nat} (c : Nat) (h : Dv m a) : Dv m (mul c a) := by
  obtain ⟨q, rfl⟩ := h; exact ⟨mul c q, (mul_assoc c q m).symm⟩
theorem dv_mul' {m a : Nat} (c : Nat) (h : Dv m a) : Dv m (mul a c) := by rw [mul_comm]; exact dv_mul c h
theorem dv_len {m a : Nat} (h : Dv m a) (ha : a ≠ 0) : len m ≤ len a := by
  obtain ⟨q, rfl⟩ := h
  have hq : q ≠ 0 := fun e => ha (by rw [e, zero_mul])
  have hm : m ≠ 0 := fun e => ha (by rw [e, mul_zero])
  have := mul_ne_zero_len hq hm
  have := len_pos.2 hq
  omega
theorem len_one_eq {a : Nat} (h : len a = 1) : a = 1 := by
  have h1 := lt_len a
  have h2 := le_of_len (a := a) (len_pos.1 (by omega))
  rw [h] at h1 h2
  simp at h1 h2
  omega
theorem dv_antisymm {a b : Nat} (h : Dv a b) (h' : Dv b a) : a = b := by
  by_cases hb : b = 0
  · subst hb; exact zero_dv h'
  · have hl := dv_len h hb
    have ha : a ≠ 0 := fun e => hb (by subst e; exact zero_dv h)
    have hl' := dv_len h' ha
    obtain ⟨q, rfl⟩ := h
    have hq : q ≠ 0 := fun e => hb (by rw [e, zero_mul])
    have := mul_ne_zero_len hq ha
    have hq1 := len_one_eq (a := q) (by have := len_pos.2 hq; omega)
    rw [hq1, one_mul]
theorem dv_mod {m a b : Nat} (h : Dv m a) (h' : Dv m b) : Dv m (mod a b) := by
  by_cases hb : b = 0
  · subst hb; rw [mod_zero]; exact h
  · have e := div_mod a hb
    have : mod a b = a ^^^ mul (div a b) b := by
      have h2 : a ^^^ mul (div a b) b = (mul (div a b) b ^^^ mod a b) ^^^ mul (div a b) b := by rw [← e]
      rw [h2, Nat.xor_comm (mul _ _), Nat.xor_assoc, Nat.xor_self, Nat.xor_zero]
    rw [this]; exact dv_xor h (dv_mul _ h')
theorem dv_of_mod {m a b : Nat} (h : Dv m (mod a b)) (h' : Dv m b) : Dv m a := by
  by_cases hb : b = 0
  · subst hb; rwa [mod_zero] at h
  · rw [div_mod a hb]; exact dv_xor (dv_mul _ h') h

/-- The greatest that divides both. -/
noncomputable def gcd (a b : Nat) : Nat := if _h : b = 0 then a else gcd b (mod a b)
termination_by len b
decreasing_by exact mod_len a (by assumption)
theorem gcd_zero (a : Nat) : gcd a 0 = a := by rw [gcd]; simp
theorem gcd_step (a : Nat) {b : Nat} (h : b ≠ 0) : gcd a b = gcd b (mod a b) := by rw [gcd]; simp [h]

theorem gcd_all (n : Nat) : ∀ a b, len b ≤ n → Dv (gcd a b) a ∧ Dv (gcd a b) b ∧ (∀ d, Dv d a → Dv d b → Dv d (gcd a b)) ∧ ∃ u v, gcd a b = mul u a ^^^ mul v b := by
  induction n with
  | zero =>
    intro a b h
    have : b = 0 := Decidable.byContradiction fun e => by have := len_pos.2 e; omega
    subst this
    rw [gcd_zero]
    exact ⟨dv_refl a, dv_zero a, fun _ h _ => h, 1, 0, by rw [one_mul, zero_mul, Nat.xor_zero]⟩
  | succ n ih =>
    intro a b h
    by_cases hb : b = 0
    · subst hb
      rw [gcd_zero]
      exact ⟨dv_refl a, dv_zero a, fun _ h _ => h, 1, 0, by rw [one_mul, zero_mul, Nat.xor_zero]⟩
    · rw [gcd_step a hb]
      obtain ⟨h1, h2, h3, u, v, h4⟩ := ih b (mod a b) (by have := mod_len a hb; omega)
      refine ⟨dv_of_mod h2 h1, h1, fun d ha hb => h3 d hb (dv_mod ha hb), v, u ^^^ mul v (div a b), ?_⟩
      have e := div_mod a hb
      have : mod a b = a ^^^ mul (div a b) b := by
        have h2 : a ^^^ mul (div a b) b = (mul (div a b) b ^^^ mod a b) ^^^ mul (div a b) b := by rw [← e]
        rw [h2, Nat.xor_comm (mul _ _), Nat.xor_assoc, Nat.xor_self, Nat.xor_zero]
      rw [h4, this, mul_xor, xor_mul, mul_assoc, ← Nat.xor_assoc, ← Nat.xor_assoc, Nat.xor_comm (mul u b)]
theorem gcd_left (a b : Nat) : Dv (gcd a b) a := (gcd_all _ a b (Nat.le_refl _)).1
theorem gcd_right (a b : Nat) : Dv (gcd a b) b := (gcd_all _ a b (Nat.le_refl _)).2.1
theorem dv_gcd {a b d : Nat} (h : Dv d a) (h' : Dv d b) : Dv d (gcd a b) := (gcd_all _ a b (Nat.le_refl _)).2.2.1 d h h'
theorem bezout (a b : Nat) : ∃ u v, gcd a b = mul u a ^^^ mul v b := (gcd_all _ a b (Nat.le_refl _)).2.2.2
theorem gcd_comm (a b : Nat) : gcd a b = gcd b a := dv_antisymm (dv_gcd (gcd_right a b) (gcd_left a b)) (dv_gcd (gcd_right b a) (gcd_left b a))
theorem gcd_assoc (a b c : Nat) : gcd (gcd a b) c = gcd a (gcd b c) :=
  dv_antisymm (dv_gcd (dv_trans (gcd_left _ _) (gcd_left _ _)) (dv_gcd (dv_trans (gcd_left _ _) (gcd_right _ _)) (gcd_right _ _)))
    (dv_gcd (dv_gcd (gcd_left _ _) (dv_trans (gcd_right _ _) (gcd_left _ _))) (dv_trans (gcd_right _ _) (gcd_right _ _)))
theorem zero_gcd (a : Nat) : gcd 0 a = a := by rw [gcd_comm, gcd_zero]
theorem gcd_eq_zero {a b : Nat} (h : gcd a b = 0) : a = 0 ∧ b = 0 :=
  ⟨zero_dv (h ▸ gcd_left a b), zero_dv (h ▸ gcd_right a b)⟩

/-- Nothing but 1 and itself divides it. -/
def Irr (p : Nat) : Prop := 2 ≤ len p ∧ ∀ d, Dv d p → d = 1 ∨ d = p

theorem irr_dv {p a b : Nat} (hp : Irr p) (h : Dv p (mul a b)) : Dv p a ∨ Dv p b := by
  rcases hp.2 _ (gcd_left p a) with h1 | h1
  · right
    obtain ⟨u, v, e⟩ := bezout p a
    rw [h1] at e
    have : b = mul (mul u b) p ^^^ mul v (mul a b) := by
      have h2 : mul 1 b = mul (mul u p ^^^ mul v a) b := by rw [← e]
      rw [one_mul, xor_mul] at h2
      rw [mul_assoc u b p, mul_comm b p, ← mul_assoc u p b, ← mul_assoc v a b]; exact h2
    rw [this]; exact dv_xor ⟨_, rfl⟩ (dv_mul v h)
  · left; have := gcd_right p a; rwa [h1] at this

theorem irr_factor (n : Nat) : ∀ a, len a ≤ n → 2 ≤ len a → ∃ q, Irr q ∧ Dv q a := by
  induction n with
  | zero => intro a h h'; omega
  | succ n ih =>
    intro a h h'
    by_cases hi : Irr a
    · exact ⟨a, hi, dv_refl a⟩
    · have : ∃ d, Dv d a ∧ d ≠ 1 ∧ d ≠ a := Classical.byContradiction fun hn => hi ⟨h', fun d hd => Classical.byContradiction fun hh => hn ⟨d, hd, fun e => hh (Or.inl e), fun e => hh (Or.inr e)⟩⟩
      obtain ⟨d, hd, h1, h2⟩ := this
      have ha : a ≠ 0 := len_pos.1 (by omega)
      have hl := dv_len hd ha
      have hd0 : d ≠ 0 := fun e => ha (by subst e; exact zero_dv hd)
      have hd2 : 2 ≤ len d := by
        have := len_pos.2 hd0
        by_cases e : len d = 1
        · exact absurd (len_one_eq e) h1
        · omega
      have hlt : len d ≠ len a := by
        intro e
        obtain ⟨q, rfl⟩ := hd
        have hq : q ≠ 0 := fun e => ha (by rw [e, zero_mul])
        have := mul_ne_zero_len hq hd0
        exact h2 (by rw [len_one_eq (a := q) (by omega), one_mul])
      obtain ⟨q, hq, hqd⟩ := ih d (by omega) hd2
      exact ⟨q, hq, dv_trans hqd hd⟩

/-- A product has one that nothing divides, of at most half its degree. -/
theorem small_factor {a b : Nat} (ha : 2 ≤ len a) (hb : 2 ≤ len b) : ∃ q, Irr q ∧ Dv q (mul a b) ∧ len q - 1 ≤ (len (mul a b) - 1) / 2 := by
  have h := mul_ne_zero_len (a := a) (b := b) (len_pos.1 (by omega)) (len_pos.1 (by omega))
  by_cases hab : len a ≤ len b
  · obtain ⟨q, hq, hqa⟩ := irr_factor _ a (Nat.le_refl _) ha
    have := dv_len hqa (len_pos.1 (by omega))
    exact ⟨q, hq, dv_mul' b hqa, by omega⟩
  · obtain ⟨q, hq, hqb⟩ := irr_factor _ b (Nat.le_refl _) hb
    have := dv_len hqb (len_pos.1 (by omega))
    exact ⟨q, hq, dv_mul a hqb, by omega⟩

/-- Powers. -/
def pw (a : Nat) : Nat → Nat
  | 0 => 1
  | n + 1 => mul a (pw a n)
theorem pw_add (a m n : Nat) : pw a (m + n) = mul (pw a m) (pw a n) := by
  induction m with
  | zero => rw [Nat.zero_add]; exact (one_mul _).symm
  | succ m ih => rw [Nat.succ_add, pw, ih, pw, mul_assoc]
theorem mod_pw (a n m : Nat) : mod (pw (mod a m) n) m = mod (pw a n) m := by
  induction n with
  | zero => rfl
  | succ n ih => rw [pw, pw, mod_mul_left, ← mod_mul_right, ih, mod_mul_right]

theorem perm_of {l : List Nat} : ∀ {l' : List Nat}, l.Nodup → (∀ x ∈ l, x ∈ l') → l'.length ≤ l.length → l.Perm l' := by
  induction l with
  | nil => intro l' _ _ h; have : l' = [] := List.eq_nil_of_length_eq_zero (by simpa using h); subst this; exact List.Perm.refl _
  | cons x t ih =>
    intro l' hn hs hl
    have hx : x ∈ l' := hs x (by simp)
    rw [List.nodup_cons] at hn
    have hp := List.perm_cons_erase hx
    have h2 := ih (l' := l'.erase x) hn.2 (fun y hy => (List.mem_erase_of_ne (fun e => hn.1 (by rw [← e]; exact hy))).2 (hs y (by simp [hy]))) (by rw [List.length_erase_of_mem hx]; simp at hl; omega)
    exact (List.Perm.cons x h2).trans hp.symm

def prod (l : List Nat) : Nat := l.foldr mul 1
theorem prod_perm {l l' : List Nat} (h : l.Perm l') : prod l = prod l' := by
  induction h with
  | nil => rfl
  | cons x _ ih => simp only [prod, List.foldr_cons] at *; rw [ih]
  | swap x y l => simp only [prod, List.foldr_cons]; rw [← mul_assoc, mul_comm y x, mul_assoc]
  | trans _ _ h1 h2 => rw [h1, h2]

theorem prod_map (a m : Nat) (l : List Nat) : mod (prod (l.map fun y => mod (mul a y) m)) m = mod (mul (pw a l.length) (prod l)) m := by
  induction l with
  | nil => simp [prod, pw, one_mul]
  | cons x t ih =>
    simp only [prod, List.map_cons, List.foldr_cons, List.length_cons, pw] at *
    rw [mod_mul_left, ← mod_mul_right, ih, mod_mul_right]
    congr 1
    rw [mul_assoc a x, ← mul_assoc x, mul_comm x, mul_assoc, mul_assoc a]

theorem irr_not_dv_prod {q : Nat} (hq : Irr q) (l : List Nat) (h : ∀ x ∈ l, ¬ Dv q x) : ¬ Dv q (prod l) := by
  induction l with
  | nil =>
    intro hd
    have h1 := dv_len hd (by simp [prod])
    have := hq.1
    simp [prod] at h1
    have : len 1 = 1 := rfl
    omega
  | cons x t ih =>
    intro hd
    rcases irr_dv hq hd with h1 | h1
    · exact h x (by simp) h1
    · exact ih (fun y hy => h y (by simp [hy])) h1

theorem not_dv_small {q x : Nat} (hx : x ≠ 0) (h : len x < len q) : ¬ Dv q x := fun hd => by have := dv_len hd hx; omega

theorem fermat {q a : Nat} (hq : Irr q) (ha : ¬ Dv q a) : mod (pw a (2 ^ (len q - 1) - 1)) q = 1 := by
  have hq0 : q ≠ 0 := len_pos.1 (by have := hq.1; omega)
  have hl := hq.1
  let L := List.range' 1 (2 ^ (len q - 1) - 1)
  have hmem : ∀ x, x ∈ L ↔ x ≠ 0 ∧ len x < len q := by
    intro x
    simp only [L, List.mem_range'_1]
    have hpp := Nat.two_pow_pos (len q - 1)
    have : len x < len q ↔ len x ≤ len q - 1 := by omega
    rw [this, len_le]
    omega
  have hnd : ∀ x ∈ L, ¬ Dv q x := fun x hx => not_dv_small ((hmem x).1 hx).1 ((hmem x).1 hx).2
  have hmap : (L.map fun y => mod (mul a y) q).Perm L := by
    apply perm_of
    · have hLn : L.Nodup := List.nodup_range'
      rw [List.nodup_iff_pairwise_ne] at hLn ⊢
      rw [List.pairwise_map]
      refine List.Pairwise.imp_of_mem ?_ hLn
      intro x y hx hy hne e
      have h0 : mod (mul a (x ^^^ y)) q = 0 := by rw [mul_xor, mod_xor, e, Nat.xor_self]
      rcases irr_dv hq ((dv_iff hq0).2 h0) with h1 | h1
      · exact ha h1
      · refine not_dv_small (fun e => hne (xor_eq_zero.1 e)) ?_ h1
        have := len_xor_le x y
        have := ((hmem x).1 hx).2
        have := ((hmem y).1 hy).2
        omega
    · intro z hz
      rw [List.mem_map] at hz
      obtain ⟨y, hy, rfl⟩ := hz
      rw [hmem]
      refine ⟨fun e => ?_, mod_len _ hq0⟩
      rcases irr_dv hq ((dv_iff hq0).2 e) with h1 | h1
      · exact ha h1
      · exact hnd y hy h1
    · simp
  have h1 := prod_map a q L
  rw [prod_perm hmap] at h1
  have h2 : Dv q (mul (pw a L.length ^^^ 1) (prod L)) := by
    rw [dv_iff hq0, xor_mul, mod_xor, ← h1, one_mul, Nat.xor_self]
  rcases irr_dv hq h2 with h3 | h3
  · have : L.length = 2 ^ (len q - 1) - 1 := by simp [L]
    rw [this, dv_iff hq0, mod_xor, mod_of_lt (a := 1) (by have : len 1 = 1 := rfl; omega)] at h3
    exact xor_eq_zero.1 h3
  · exact absurd h3 (irr_not_dv_prod hq L hnd)

/-- Every polynomial is its own power, 2^degree far, modulo one that nothing divides. -/
theorem frob {q : Nat} (hq : Irr q) (a : Nat) : mod (pw a (2 ^ (len q - 1))) q = mod a q := by
  have hq0 : q ≠ 0 := len_pos.1 (by have := hq.1; omega)
  have hpp := Nat.two_pow_pos (len q - 1)
  by_cases ha : Dv q a
  · have h0 := (dv_iff hq0).1 ha
    have : 2 ^ (len q - 1) = (2 ^ (len q - 1) - 1) + 1 := by omega
    rw [this, pw, ← mod_mul_left, h0, zero_mul]
    exact mod_of_lt (by rw [len_zero]; have := hq.1; omega)
  · have h1 := fermat hq ha
    have : 2 ^ (len q - 1) = (2 ^ (len q - 1) - 1) + 1 := by omega
    rw [this, pw, ← mod_mul_right, h1, mul_one]

/-- x^(2^i) modulo p, by squaring. -/
noncomputable def sq (p : Nat) : Nat → Nat
  | 0 => 2
  | i + 1 => mod (mul (sq p i) (sq p i)) p
theorem sq_eq (p i : Nat) : mod (sq p i) p = mod (pw 2 (2 ^ i)) p := by
  induction i with
  | zero => simp [sq, pw, mul_one]
  | succ i ih => rw [sq, mod_mod, Nat.pow_succ, Nat.mul_two, pw_add, ← mod_mul_left, ih, mod_mul_left, ← mod_mul_right, ih, mod_mul_right]
theorem mod_dv {q p a : Nat} (h : Dv q p) (hp : p ≠ 0) : mod (mod a p) q = mod a q := by
  have hq : q ≠ 0 := fun e => hp (by subst e; exact zero_dv h)
  have e := div_mod a hp
  have h2 : mod (mul (div a p) p) q = 0 := (dv_iff hq).1 (dv_mul _ h)
  have h3 : mod a q = mod (mul (div a p) p ^^^ mod a p) q := by rw [← e]
  rw [h3, mod_xor, h2, Nat.zero_xor]

/-- What has a factor is found by the round of the factor's degree. -/
theorem found {q p : Nat} (hq : Irr q) (hp : p ≠ 0) (h : Dv q p) : gcd (sq p (len q - 1) ^^^ 2) p ≠ 1 := by
  intro e
  have hq0 : q ≠ 0 := len_pos.1 (by have := hq.1; omega)
  have h1 : Dv q (sq p (len q - 1) ^^^ 2) := by
    rw [dv_iff hq0, mod_xor]
    have h2 : mod (sq p (len q - 1)) q = mod 2 q := by
      rw [← mod_dv h hp, sq_eq, mod_dv h hp, frob hq]
    rw [h2, Nat.xor_self]
  have h3 := dv_gcd h1 h
  rw [e] at h3
  have := dv_len h3 (by omega)
  have : len 1 = 1 := rfl
  have := hq.1
  omega

end Go.Proofs.YtcdbffgmgfblkaaDoor.Pol
