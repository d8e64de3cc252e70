/- Prime tells what the document's Prime tells, for all polynomials of degree up to 13: what has a factor is found by the round of the factor's degree; that all others pass is reckoned by the kernel. -/
import Derived.Test.YtgilaklgpopjeaaPolC
namespace Go.Proofs.Ytgilaklgpopjeaa.Pol

theorem not_prime_mul {a b : Nat} (ha : 2 ≤ len a) (hb : 2 ≤ len b) : isPrime (mul a b) = false := by
  rw [isPrime_false]
  have h := mul_ne_zero_len (a := a) (b := b) (len_pos.1 (by omega)) (len_pos.1 (by omega))
  obtain ⟨q, hq, hd, hle⟩ := small_factor ha hb
  have h2 := hq.1
  rintro (h1 | ⟨_, h1⟩)
  · omega
  · exact found hq (len_pos.1 (by omega)) hd (h1 (len q - 1) (by omega) hle)

/-- n more squares, none of which is x again. -/
def csq (p : Nat) : Nat → Nat → Bool
  | 0, _ => true
  | n + 1, x => (fun y => cond (Nat.beq y 2) false (csq p n y)) (cmod 28 (cmul 14 x x) p)
theorem csq_eq {p : Nat} (hp : p ≠ 0) (hp' : p < 2 ^ 14) (n : Nat) : ∀ i, csq p n (sq p i) = true → ∀ j, i < j → j ≤ i + n → sq p j ≠ 2 := by
  induction n with
  | zero => intro i _ j h1 h2; omega
  | succ n ih =>
    intro i h j h1 h2
    have hs := sq_lt (f := 14) (by omega) hp hp' i
    have e1 : cmul 14 (sq p i) (sq p i) = mul (sq p i) (sq p i) := cmul_eq 14 _ _ hs
    have e2 : len (mul (sq p i) (sq p i)) ≤ 28 := len_le.2 (mul_lt hs hs)
    have e3 : cmod 28 (cmul 14 (sq p i) (sq p i)) p = sq p (i + 1) := by rw [e1, cmod_eq _ _ _ hp e2]; rfl
    rw [csq, e3] at h
    dsimp only at h
    cases hb : Nat.beq (sq p (i + 1)) 2 with
    | true => rw [hb] at h; cases h
    | false =>
      rw [hb] at h
      by_cases hj : j = i + 1
      · subst hj; exact Nat.ne_of_beq_eq_false hb
      · exact ih (i + 1) h j (by omega) (by omega)
theorem irr_of_refPrime {p : Nat} (h : RefPrime p) : Irr p := by
  have hp := h.1
  have h2 : ∀ q, 2 ≤ len q → len q - 1 ≤ (len p - 1) / 2 → ¬ Dv q p := by
    intro q hq hl hd
    have hq2 : 2 ≤ q := by
      apply Nat.le_of_not_lt
      intro hlt
      have := len_mono (show q ≤ 1 by omega)
      have : len 1 = 1 := rfl
      omega
    exact h.2 q hq2 hl ((dv_iff (by omega)).1 hd)
  refine ⟨hp, fun d hd => ?_⟩
  obtain ⟨c, hc⟩ := hd
  have hp0 : p ≠ 0 := len_pos.1 (by omega)
  have hd0 : d ≠ 0 := fun e => hp0 (by rw [hc, e, mul_zero])
  have hc0 : c ≠ 0 := fun e => hp0 (by rw [hc, e, zero_mul])
  have hl := mul_ne_zero_len hc0 hd0
  rw [← hc] at hl
  have l1 := len_pos.2 hd0
  have l2 := len_pos.2 hc0
  by_cases e1 : len d = 1
  · exact .inl (len_one_eq e1)
  · by_cases e2 : len c = 1
    · right; rw [hc, len_one_eq e2, one_mul]
    · exfalso
      by_cases e3 : len d ≤ len c
      · exact h2 d (by omega) (by omega) ⟨c, hc⟩
      · exact h2 c (by omega) (by omega) ⟨d, by rw [hc, mul_comm]⟩
theorem prime_of_csq {p : Nat} (hr : RefPrime p) (hp : p < 2 ^ 14) (h3 : 3 ≤ len p) (h : csq p ((len p - 1) / 2) 2 = true) : isPrime p = true := by
  have hp0 : p ≠ 0 := len_pos.1 (by omega)
  refine isPrime_true.2 (.inr ⟨h3, fun i h1 h2 => ?_⟩)
  have hne := csq_eq hp0 hp _ 0 h i (by omega) (by omega)
  rcases (irr_of_refPrime hr).2 _ (gcd_right (sq p i ^^^ 2) p) with e | e
  · exact e
  · exfalso
    have hd := gcd_left (sq p i ^^^ 2) p
    rw [e] at hd
    have hne2 : sq p i ^^^ 2 ≠ 0 := fun e => hne (xor_eq_zero.1 e)
    have hl := dv_len hd hne2
    have hs : len (sq p i) < len p := by
      obtain ⟨k, rfl⟩ : ∃ k, i = k + 1 := ⟨i - 1, by omega⟩
      rw [sq]
      exact mod_len _ hp0
    have h22 : len 2 = 2 := len_eq (n := 1) (by omega) (by omega)
    have := len_xor_le (sq p i) 2
    omega

/-- All of degree up to 6 that nothing divides, but x. -/
def small : List Nat := [3, 7, 11, 13, 19, 25, 31, 37, 41, 47, 55, 59, 61, 67, 73, 87, 91, 97, 103, 109, 115, 117]
def hasSmall (p : Nat) : List Nat → Bool
  | [] => false
  | q :: l => cond (Nat.ble (2 * (clen q - 1)) (clen p - 1)) (cond (Nat.beq (cmod 14 p q) 0) true (hasSmall p l)) false
def check (p : Nat) : Bool := cond (Nat.blt (clen p) 3) true (cond (Nat.beq (p % 2) 0) true (cond (hasSmall p small) true (csq p ((clen p - 1) / 2) 2)))
def upTo : Nat → Nat → Bool
  | 0, _ => true
  | n + 1, k => cond (check (k + n)) (upTo n k) false
theorem upTo_all (n : Nat) : ∀ k, upTo n k = true → ∀ p, k ≤ p → p < k + n → check p = true := by
  induction n with
  | zero => intro k _ p h1 h2; omega
  | succ n ih =>
    intro k h p h1 h2
    rw [upTo] at h
    cases hc : check (k + n) with
    | false => rw [hc] at h; cases h
    | true =>
      rw [hc] at h
      by_cases e : p = k + n
      · rw [e]; exact hc
      · exact ih k h p h1 (by omega)
theorem check1 : upTo 4096 0 = true := by decide +kernel
theorem check2 : upTo 4096 4096 = true := by decide +kernel
theorem check3 : upTo 4096 8192 = true := by decide +kernel
theorem check4 : upTo 4096 12288 = true := by decide +kernel
theorem check_all (p : Nat) (h : p < 16384) : check p = true := by
  by_cases h1 : p < 4096
  · exact upTo_all _ _ check1 p (by omega) (by omega)
  · by_cases h2 : p < 8192
    · exact upTo_all _ _ check2 p (by omega) (by omega)
    · by_cases h3 : p < 12288
      · exact upTo_all _ _ check3 p (by omega) (by omega)
      · exact upTo_all _ _ check4 p (by omega) (by omega)

theorem hasSmall_sound {p : Nat} (hp : len p ≤ 14) : ∀ l : List Nat, (∀ q ∈ l, 2 ≤ q) → hasSmall p l = true → ∃ q, 2 ≤ q ∧ len q - 1 ≤ (len p - 1) / 2 ∧ mod p q = 0
  | [], _, h => by cases h
  | q :: l, hl, h => by
    rw [hasSmall, clen_eq, clen_eq] at h
    have hq := hl q (by simp)
    cases h1 : Nat.ble (2 * (len q - 1)) (len p - 1) with
    | false => rw [h1] at h; cases h
    | true =>
      rw [h1] at h
      have h1' := Nat.le_of_ble_eq_true h1
      cases h2 : Nat.beq (cmod 14 p q) 0 with
      | true =>
        have h3 := Nat.eq_of_beq_eq_true h2
        rw [cmod_eq 14 p q (by omega) hp] at h3
        exact ⟨q, hq, by omega, h3⟩
      | false =>
        rw [h2] at h
        exact hasSmall_sound hp l (fun x hx => hl x (by simp [hx])) h

theorem mod_two (p : Nat) : mod p 2 = p % 2 := by
  have hl : len (p % 2) < len 2 := by
    have h2 : len 2 = 2 := len_eq (n := 1) (by omega) (by omega)
    have : len (p % 2) ≤ 1 := len_le.2 (by omega)
    omega
  refine (div_mod_of (q := p / 2) ⟨?_, hl⟩).2
  have h := bits p
  rw [mul_comm, show mul 2 (p / 2) = 2 * (p / 2) from by rw [show (2 : Nat) = 2 * 1 from rfl, mul_double, one_mul]]
  rw [Nat.xor_comm]
  rcases Nat.mod_two_eq_zero_or_one p with e | e
  · rw [e] at h ⊢; exact h
  · rw [e] at h ⊢; exact h
theorem len_two : len 2 = 2 := len_eq (n := 1) (by omega) (by omega)

theorem primes_agree (p : Nat) (h : p < 16384) : isPrime p = isRefPrime p := by
  have hl : len p ≤ 14 := len_le.2 h
  cases hr : isRefPrime p with
  | true =>
    have h1 := isRefPrime_true.1 hr
    by_cases h3 : 3 ≤ len p
    · have hc := check_all p h
      unfold check at hc
      rw [clen_eq] at hc
      have hb : Nat.blt (len p) 3 = false := by
        cases hb : Nat.blt (len p) 3 with
        | false => rfl
        | true => rw [Nat.blt_eq] at hb; omega
      rw [hb] at hc
      have h2 : Nat.beq (p % 2) 0 = false := by
        cases h2 : Nat.beq (p % 2) 0 with
        | false => rfl
        | true =>
          have h0 := Nat.eq_of_beq_eq_true h2
          have := h1.2 2 (by omega) (by rw [len_two]; omega)
          rw [mod_two] at this
          exact absurd h0 this
      rw [h2] at hc
      cases hs : hasSmall p small with
      | true =>
        obtain ⟨q, hq, hql, hqm⟩ := hasSmall_sound hl small (by decide) hs
        exact absurd hqm (h1.2 q hq hql)
      | false =>
        rw [hs] at hc
        exact prime_of_csq h1 h h3 hc
    · exact isPrime_true.2 (.inl (by have := h1.1; omega))
  | false =>
    have h1 := isRefPrime_false.1 hr
    by_cases h2 : 2 ≤ len p
    · have : ∃ q, 2 ≤ q ∧ len q - 1 ≤ (len p - 1) / 2 ∧ mod p q = 0 := by
        apply Classical.byContradiction
        intro hn
        exact h1 ⟨h2, fun q hq hql hm => hn ⟨q, hq, hql, hm⟩⟩
      obtain ⟨q, hq, hql, hqm⟩ := this
      have hlq := len_mono hq
      rw [len_two] at hlq
      obtain ⟨d, hd⟩ := (dv_iff (by omega)).2 hqm
      have hd0 : d ≠ 0 := by
        intro e
        rw [e, zero_mul] at hd
        rw [hd, len_zero] at h2
        omega
      have hml := mul_ne_zero_len hd0 (show q ≠ 0 by omega)
      rw [← hd] at hml
      rw [hd]
      exact not_prime_mul (by omega) hlq
    · rw [isPrime_false]
      rintro (h3 | ⟨h3, _⟩) <;> omega
end Go.Proofs.Ytgilaklgpopjeaa.Pol
