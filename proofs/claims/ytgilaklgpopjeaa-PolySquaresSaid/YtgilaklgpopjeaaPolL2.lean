/- The walk through the law PolySquares. -/
import Derived.Test.YtgilaklgpopjeaaPolB
namespace Go.Proofs.Ytgilaklgpopjeaa
open Go.RowKit

theorem bne_no (x y : Nat) (h : x = y) : ((x : Int) != (y : Int)) = false := by subst h; simp

set_option maxHeartbeats 4000000 in
set_option maxRecDepth 100000 in
theorem squares_nat (a b : Nat) (ha : a ≤ 18446744073709551615) (hb : b ≤ 18446744073709551615) (w : World) :
    Calls Try.prog 10 #[.int .u64 (a : Int), .int .u64 (b : Int)] w fun e w' => e = .returned (.bool true) ∧ Below w.heap.size w w' := by
  have ep : (a : Int) % 2147483648 = ((a % 2147483648 : Nat) : Int) := by omega
  have eq : (b : Int) % 2147483648 = ((b % 2147483648 : Nat) : Int) := by omega
  have hp : a % 2147483648 < 2 ^ 31 := by omega
  have hq : b % 2147483648 < 2 ^ 31 := by omega
  generalize a % 2147483648 = p at *
  generalize b % 2147483648 = q at *
  have hp' : p ≤ 18446744073709551615 := by omega
  have hq' : q ≤ 18446744073709551615 := by omega
  have hx := xor_le hp' hq'
  have x1 := Pol.lo_lt (Pol.mul p p)
  have x2 := Pol.lo_lt (Pol.mul q q)
  have d1 := bne_no (Pol.lo (Pol.mul (p ^^^ q) (p ^^^ q))) (Pol.lo (Pol.mul p p) ^^^ Pol.lo (Pol.mul q q)) (by rw [Pol.sq_xor, Pol.lo_xor])
  have e1 : Hid (Pol.lo (Pol.mul p p) = Pol.mul p p) := Pol.lo_of_lt (by have := Pol.mul_lt hp hp; omega)
  go_enter Try.func10, Try.ntmps10
  go_wp2_with (first
      | (go_at_call 15; (with_reducible refine (mul_nat _ _ _ (by assumption) (by assumption)).mono ?_); rintro e w' ⟨rfl, rfl⟩)
      | (go_at_call 11; (with_reducible refine (add_lit _ _ _ _ _ (by simp) (by assumption) (by assumption)).mono ?_); rintro e w' ⟨rfl, rfl⟩)
      | (go_at_call 12; (with_reducible refine (bits_true _).mono ?_); rintro e w' ⟨rfl, hb1⟩))
  generalize Pol.lo (Pol.mul p p) = x at *
  go_loopw [13] (fun i wr => ∃ k : Nat, k ≤ 31 ∧ i = .int .i64 k ∧ Below w.heap.size w wr) (fun i _ => 31 - (intOf i).toNat)
  case atStart => exact ⟨0, by omega, rfl, (by repeat (first | exact Q.refl _ | apply Q.alloc | refine Q.step ?_ (by assumption)) : Q w _)⟩
  case round =>
    obtain ⟨k, hk, rfl, hbel⟩ := hrel
    by_cases hlt : k < 31
    · obtain ⟨h1, h2⟩ := Pol.sq_bits k p
      rw [← e1.out] at h1 h2
      have d2 : (((x : Int) / 2 ^ (2 * k)).tmod 2 != ((p : Int) / 2 ^ k).tmod 2) = false := by
        rw [shr_nat, shr_nat, Int.tmod_eq_emod_of_nonneg (Int.natCast_nonneg _), Int.tmod_eq_emod_of_nonneg (Int.natCast_nonneg _)]
        have : ((x / 2 ^ (2 * k) : Nat) : Int) % 2 = ((p / 2 ^ k : Nat) : Int) % 2 := by
          show ((x / 2 ^ (2 * k) % 2 : Nat) : Int) = ((p / 2 ^ k % 2 : Nat) : Int)
          rw [h1]
        rw [this]; simp
      have d3 : (((x : Int) / 2 ^ (2 * k + 1)).tmod 2 != 0) = false := by
        rw [shr_nat, Int.tmod_eq_emod_of_nonneg (Int.natCast_nonneg _)]
        have : ((x / 2 ^ (2 * k + 1) : Nat) : Int) % 2 = 0 := by
          show ((x / 2 ^ (2 * k + 1) % 2 : Nat) : Int) = 0
          rw [h2]; rfl
        rw [this]; rfl
      clear h1 h2
      go_wp2
      go_quiet (fail)
      go_wp2
      go_roundw
      case rel => exact ⟨k + 1, by omega, by go_num, (Q.drewN hbel _ : Q w _)⟩
      case measure => simp [intOf]; omega
    · go_wp2
      go_ret
      exact ⟨rfl, hbel⟩
theorem squares_true (a : Int) (wa : (Lit.int .u64 a).wf = true) (b : Int) (wb : (Lit.int .u64 b).wf = true) (w : World) :
    Calls Try.prog 10 #[.int .u64 a, .int .u64 b] w fun e w' => e = .returned (.bool true) ∧ Below w.heap.size w w' := by
  obtain ⟨ha, ha'⟩ := wf64 wa
  obtain ⟨hb, hb'⟩ := wf64 wb
  obtain ⟨A, rfl⟩ := Int.eq_ofNat_of_zero_le ha
  obtain ⟨B, rfl⟩ := Int.eq_ofNat_of_zero_le hb
  exact squares_nat A B (by omega) (by omega) w
end Go.Proofs.Ytgilaklgpopjeaa
