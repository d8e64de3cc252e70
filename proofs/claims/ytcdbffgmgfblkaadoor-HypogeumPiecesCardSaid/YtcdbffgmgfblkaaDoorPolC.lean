/- Products, rests and greatest divisors of polynomials reckoned by the kernel; that 0x3DA3358B4DC173 passes Prime's questions, and that all primes of degree up to 13 do. -/
import Derived.Test.YtcdbffgmgfblkaaDoorPolA
namespace Go.Proofs.YtcdbffgmgfblkaaDoor.Pol
set_option linter.unusedVariables false
set_option linter.unusedSimpArgs false

def clen (a : Nat) : Nat := cond (Nat.beq a 0) 0 (Nat.log2 a + 1)
theorem clen_eq (a : Nat) : clen a = len a := by
  unfold clen len
  cases h : Nat.beq a 0 with
  | true => rw [if_pos (Nat.eq_of_beq_eq_true h)]; rfl
  | false => rw [if_neg (Nat.ne_of_beq_eq_false h)]; rfl

def cmul : Nat → Nat → Nat → Nat
  | 0, _, _ => 0
  | f + 1, a, b => Nat.xor (cond (Nat.beq (b % 2) 1) a 0) (2 * cmul f a (b / 2))
theorem cmul_eq (f : Nat) : ∀ a b, b < 2 ^ f → cmul f a b = mul a b := by
  induction f with
  | zero => intro a b h
            have h0 : b = 0 := by simpa using h
            rw [h0, mul_zero]; rfl
  | succ f ih =>
    intro a b h
    rw [mul_step, cmul, ih a (b / 2) (by rw [Nat.pow_succ] at h; omega)]
    cases hb : Nat.beq (b % 2) 1 with
    | true => rw [if_pos (Nat.eq_of_beq_eq_true hb)]; rfl
    | false => rw [if_neg (Nat.ne_of_beq_eq_false hb)]; rfl

def cmod : Nat → Nat → Nat → Nat
  | 0, a, _ => a
  | f + 1, a, m => cond (Nat.blt (clen a) (clen m)) a (cmod f (Nat.xor a (m * 2 ^ (clen a - clen m))) m)
theorem cmod_eq (f : Nat) : ∀ a m, m ≠ 0 → len a ≤ f → cmod f a m = mod a m := by
  induction f with
  | zero =>
    intro a m hm h
    have h0 : len a = 0 := by omega
    have := len_pos.2 hm
    exact (mod_of_lt (a := a) (by omega)).symm
  | succ f ih =>
    intro a m hm h
    rw [cmod, clen_eq, clen_eq]
    cases hb : Nat.blt (len a) (len m) with
    | true => exact (mod_of_lt (by simpa [Nat.blt_eq] using hb)).symm
    | false =>
      have hl : len m ≤ len a := by
        apply Nat.le_of_not_lt; intro h; rw [← Nat.blt_eq] at h; rw [h] at hb; cases hb
      have h1 := div_round_len hm hl
      show cmod f (a ^^^ m * 2 ^ (len a - len m)) m = _
      rw [ih _ _ hm (by omega), mod_xor, ← mul_pow, mul_comm, mod_mul_self _ _ hm, Nat.xor_zero]

def cgcd : Nat → Nat → Nat → Nat
  | 0, a, _ => a
  | f + 1, a, b => cond (Nat.beq b 0) a (cgcd f b (cmod (clen a) a b))
theorem cgcd_eq (f : Nat) : ∀ a b, len b ≤ f → cgcd f a b = gcd a b := by
  induction f with
  | zero =>
    intro a b h
    have : b = 0 := Decidable.byContradiction fun e => by have := len_pos.2 e; omega
    subst this; rw [gcd_zero]; rfl
  | succ f ih =>
    intro a b h
    rw [cgcd]
    cases hb : Nat.beq b 0 with
    | true => have := Nat.eq_of_beq_eq_true hb; subst this; rw [gcd_zero]; rfl
    | false =>
      have hb0 := Nat.ne_of_beq_eq_false hb
      rw [gcd_step a hb0, clen_eq, cmod_eq _ _ _ hb0 (Nat.le_refl _)]
      exact ih _ _ (by have := mod_len a hb0; omega)

/-- n more of Prime's rounds, from x on; f: as many bits as the polynomials have. -/
def csteps (f p : Nat) : Nat → Nat → Bool
  | 0, _ => true
  | n + 1, x => (fun y => cond (Nat.beq (cgcd f (Nat.xor y 2) p) 1) (csteps f p n y) false) (cmod (2 * f) (cmul f x x) p)
theorem sq_lt {f p : Nat} (hf : 2 ≤ f) (hp : p ≠ 0) (h : p < 2 ^ f) (i : Nat) : sq p i < 2 ^ f := by
  cases i with
  | zero => exact Nat.lt_of_lt_of_le (show 2 < 2 ^ 2 by decide) (Nat.pow_le_pow_right (by omega) hf)
  | succ i =>
    rw [sq]
    exact Nat.lt_trans (lt_of_len_lt (mod_len _ hp)) h
theorem csteps_eq {f p : Nat} (hf : 2 ≤ f) (hp : p ≠ 0) (hp' : p < 2 ^ f) (n : Nat) : ∀ i, csteps f p n (sq p i) = true → ∀ j, i < j → j ≤ i + n → gcd (sq p j ^^^ 2) p = 1 := by
  induction n with
  | zero => intro i _ j h1 h2; omega
  | succ n ih =>
    intro i h j h1 h2
    have hs := sq_lt hf hp hp' i
    have e1 : cmul f (sq p i) (sq p i) = mul (sq p i) (sq p i) := cmul_eq f _ _ hs
    have e2 : len (mul (sq p i) (sq p i)) ≤ 2 * f := by
      have := len_le.2 (mul_lt hs hs)
      omega
    have e3 : cmod (2 * f) (cmul f (sq p i) (sq p i)) p = sq p (i + 1) := by rw [e1, cmod_eq _ _ _ hp e2]; rfl
    have e4 : cgcd f (sq p (i + 1) ^^^ 2) p = gcd (sq p (i + 1) ^^^ 2) p := cgcd_eq f _ _ (len_le.2 hp')
    rw [csteps, e3] at h
    dsimp only at h
    cases hb : Nat.beq (cgcd f (Nat.xor (sq p (i + 1)) 2) p) 1 with
    | false => rw [hb] at h; cases h
    | true =>
      rw [hb] at h
      by_cases hj : j = i + 1
      · subst hj; rw [← e4]; exact Nat.eq_of_beq_eq_true hb
      · exact ih (i + 1) h j (by omega) (by omega)

theorem prime_of_steps {f p : Nat} (hf : 2 ≤ f) (hp' : p < 2 ^ f) (h3 : 3 ≤ len p) (h : csteps f p ((len p - 1) / 2) 2 = true) : isPrime p = true :=
  isPrime_true.2 (.inr ⟨h3, fun i h1 h2 => csteps_eq hf (len_pos.1 (by omega)) hp' _ 0 h i (by omega) (by omega)⟩)

theorem big_len : len 17349423945073011 = 54 := by rw [← clen_eq]; decide +kernel
theorem big_prime : isPrime 17349423945073011 = true := by
  apply prime_of_steps (f := 64) (by decide)
  · decide
  · rw [big_len]; decide
  · rw [big_len]; decide +kernel
theorem mul_3_3 : mul 3 3 = 5 := by rw [← cmul_eq 64 3 3 (by decide)]; decide +kernel
end Go.Proofs.YtcdbffgmgfblkaaDoor.Pol
