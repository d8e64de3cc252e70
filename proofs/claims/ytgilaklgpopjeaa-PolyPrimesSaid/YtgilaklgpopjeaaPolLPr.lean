/- The walk through the law PolyPrimes. -/
import Derived.Test.YtgilaklgpopjeaaPolB
import Derived.Test.YtgilaklgpopjeaaPolH
import Derived.Test.YtgilaklgpopjeaaPolP
namespace Go.Proofs.Ytgilaklgpopjeaa
open Go.RowKit
theorem Pr.bneF (x y : Nat) (h : x = y) : ((x : Int) != (y : Int)) = false := by subst h; simp
theorem Pr.beqT (x y : Nat) (h : x = y) : ((x : Int) == (y : Int)) = true := by subst h; simp

theorem prime_agree (p : Nat) (w : World) (hp : p < 16384) :
    Calls Try.prog 23 #[.int .u64 (p : Int)] w fun e w' => e = .returned (.bool (Pol.isRefPrime p)) ∧ Q w w' := by
  rw [← Pol.primes_agree p hp]
  exact prime_nat p w (by omega)
theorem prime_not (a b : Nat) (w : World) (ha : 2 ≤ a) (hb : 2 ≤ b) (ha' : a < 2147483648) (hb' : b < 2147483648) :
    Calls Try.prog 23 #[.int .u64 (Pol.lo (Pol.mul a b) : Nat)] w fun e w' => e = .returned (.bool false) ∧ Q w w' := by
  have hlt : Pol.mul a b < 2 ^ 62 := Pol.mul_lt (m := 31) (n := 31) (by omega) (by omega)
  rw [Pol.lo_of_lt (by omega)]
  have h1 := Pol.len_mono ha
  have h2 := Pol.len_mono hb
  rw [Pol.len_two] at h1 h2
  rw [← Pol.not_prime_mul h1 h2]
  exact prime_nat _ w (by omega)

set_option maxHeartbeats 8000000 in
set_option maxRecDepth 100000 in
theorem primes_nat (p a b : Nat) (hp : p ≤ 18446744073709551615) (ha : a ≤ 18446744073709551615) (hb : b ≤ 18446744073709551615) (w : World) :
    Calls Try.prog 8 #[.int .u64 (p : Int), .int .u64 (a : Int), .int .u64 (b : Int)] w fun e w' => e = .returned (.bool true) ∧ Below w.heap.size w w' := by
  have ep : (p : Int) % 16384 = ((p % 16384 : Nat) : Int) := by omega
  have ea : 2 + (a : Int) % 2147483646 = ((2 + a % 2147483646 : Nat) : Int) := by omega
  have eb : 2 + (b : Int) % 2147483646 = ((2 + b % 2147483646 : Nat) : Int) := by omega
  have hp' : p % 16384 < 16384 := by omega
  have ha2 : 2 ≤ 2 + a % 2147483646 := by omega
  have hb2 : 2 ≤ 2 + b % 2147483646 := by omega
  have ha3 : 2 + a % 2147483646 < 2147483648 := by omega
  have hb3 : 2 + b % 2147483646 < 2147483648 := by omega
  generalize p % 16384 = p' at *
  generalize 2 + a % 2147483646 = a' at *
  generalize 2 + b % 2147483646 = b' at *
  have ha4 : a' ≤ 18446744073709551615 := by omega
  have hb4 : b' ≤ 18446744073709551615 := by omega
  go_enter Try.func8, Try.ntmps8
  go_wp2_with (first
    | (go_at_call 23; (first | (with_reducible refine (prime_not _ _ _ ha2 hb2 ha3 hb3).mono ?_) | (with_reducible refine (prime_agree _ _ hp').mono ?_)); rintro e w' ⟨rfl, hqc⟩)
    | (go_at_call 24; (with_reducible refine (refPrime_nat _ _ hp').mono ?_); rintro e w' ⟨rfl, hqc⟩)
    | (first
    | (go_at_call 15; (with_reducible refine (mul_nat _ _ _ (by assumption) (by assumption)).mono ?_); rintro e w' ⟨rfl, rfl⟩)
    | (go_at_call 17; (with_reducible refine (div_nat _ _ _ (by assumption) (by assumption) (by assumption)).mono ?_); rintro e w' ⟨rfl, rfl⟩)
    | (go_at_call 19; (with_reducible refine (mulMod_nat _ _ _ _ (by assumption) (by assumption) (by assumption) (by assumption)).mono ?_); rintro e w' ⟨rfl, rfl⟩)
    | (go_at_call 11; (with_reducible refine (add_lit _ _ _ _ _ (by simp) (by assumption) (by assumption)).mono ?_); rintro e w' ⟨rfl, rfl⟩)
    | (go_at_call 13; (with_reducible refine (deg_nat _ _ (by assumption)).mono ?_); rintro e w' ⟨rfl, rfl⟩)
    | (go_at_call 16; (with_reducible refine (refMul_nat _ _ _ (by assumption) (by assumption)).mono ?_); rintro e w' ⟨rfl, hqc⟩)
    | (go_at_call 18; (with_reducible refine (refDiv_nat _ _ _ (by assumption) (by assumption) (by assumption)).mono ?_); rintro e w' ⟨rfl, hqc⟩)
    | (go_at_call 20; (with_reducible refine (refMulMod_nat _ _ _ _ (by assumption) (by assumption) (by assumption) (by assumption)).mono ?_); rintro e w' ⟨rfl, hqc⟩)
    | (go_at_call 14; (with_reducible refine (refDeg_nat _ _ (by assumption)).mono ?_); rintro e w' ⟨rfl, hqc⟩)
    | (go_at_call 21; (with_reducible refine (refGcd_nat _ _ _ (by assumption) (by assumption)).mono ?_); rintro e w' ⟨rfl, hqc⟩)
    | (go_at_call 12; (with_reducible refine (bits_true _).mono ?_); rintro e w' ⟨rfl, hqc⟩)))
  go_ret
  exact ⟨rfl, (by repeat (first | exact Q.refl _ | apply Q.alloc | refine Q.step ?_ (by assumption)) : Q w _)⟩

theorem primes_true (a : Int) (wa : (Lit.int .u64 a).wf = true) (b : Int) (wb : (Lit.int .u64 b).wf = true) (c : Int) (wc : (Lit.int .u64 c).wf = true) (w : World) :
    Calls Try.prog 8 #[.int .u64 a, .int .u64 b, .int .u64 c] w fun e w' => e = .returned (.bool true) ∧ Below w.heap.size w w' := by
  obtain ⟨ha, ha'⟩ := wf64 wa
  obtain ⟨A, rfl⟩ := Int.eq_ofNat_of_zero_le ha
  obtain ⟨hb, hb'⟩ := wf64 wb
  obtain ⟨B, rfl⟩ := Int.eq_ofNat_of_zero_le hb
  obtain ⟨hc, hc'⟩ := wf64 wc
  obtain ⟨C, rfl⟩ := Int.eq_ofNat_of_zero_le hc
  exact primes_nat A B C (by omega) (by omega) (by omega) w
end Go.Proofs.Ytgilaklgpopjeaa
