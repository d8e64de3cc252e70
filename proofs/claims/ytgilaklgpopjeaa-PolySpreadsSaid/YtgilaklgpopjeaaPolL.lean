/- The walks through the laws PolySpreads and PolySquares. -/
import Derived.Test.YtgilaklgpopjeaaPolB
namespace Go.Proofs.Ytgilaklgpopjeaa
open Go.RowKit

theorem bne_false (x y : Nat) (h : x = y) : ((x : Int) != (y : Int)) = false := by subst h; simp
theorem beq_true (x y : Nat) (h : x = y) : ((x : Int) == (y : Int)) = true := by subst h; simp

theorem mulMod_one (a c : Nat) (w : World) (ha : a ≤ 18446744073709551615) (hc1 : 1 ≤ c) (hc : c ≤ 18446744073709551615) :
    Calls Try.prog 19 #[.int .u64 (a : Int), .int .u64 1, .int .u64 (c : Int)] w fun e w' => e = .returned (.tuple #[.int .u64 (Pol.mod a c : Nat), .int .i64 0]) ∧ w = w' :=
  (mulMod_nat a 1 c w ha (by omega) hc1 hc).mono fun e w' h => by rwa [Pol.mul_one] at h

set_option maxHeartbeats 4000000 in
set_option maxRecDepth 100000 in
theorem spreads_nat (a b c : Nat) (ha : a ≤ 18446744073709551615) (hb : b ≤ 18446744073709551615) (hc : c ≤ 18446744073709551615) (w : World) :
    Calls Try.prog 9 #[.int .u64 (a : Int), .int .u64 (b : Int), .int .u64 (c : Int)] w fun e w' => e = .returned (.bool true) ∧ Below w.heap.size w w' := by
  have hab := xor_le ha hb
  have x1 := Pol.hi_mul_lt hab hc
  have x2 := Pol.lo_lt (Pol.mul (a ^^^ b) c)
  have x3 := Pol.hi_mul_lt ha hc
  have x4 := Pol.lo_lt (Pol.mul a c)
  have x5 := Pol.hi_mul_lt hb hc
  have x6 := Pol.lo_lt (Pol.mul b c)
  have d1 := bne_false (Pol.hi (Pol.mul (a ^^^ b) c)) (Pol.hi (Pol.mul a c) ^^^ Pol.hi (Pol.mul b c)) (by rw [Pol.xor_mul, Pol.hi_xor])
  have d2 := bne_false (Pol.lo (Pol.mul (a ^^^ b) c)) (Pol.lo (Pol.mul a c) ^^^ Pol.lo (Pol.mul b c)) (by rw [Pol.xor_mul, Pol.lo_xor])
  by_cases h0 : c = 0
  · have hd : ((c : Int) == 0) = true := by subst h0; rfl
    clear h0
    go_enter Try.func9, Try.ntmps9
    go_wp2_with (first
      | (go_at_call 15; (with_reducible refine (mul_nat _ _ _ (by assumption) (by assumption)).mono ?_); rintro e w' ⟨rfl, rfl⟩)
      | (go_at_call 11; (with_reducible refine (add_lit _ _ _ _ _ (by simp) (by assumption) (by assumption)).mono ?_); rintro e w' ⟨rfl, rfl⟩)
      | (go_at_call 12; (with_reducible refine (bits_true _).mono ?_); rintro e w' ⟨rfl, hb1⟩))
    go_ret
    exact ⟨rfl, (by repeat (first | exact Q.refl _ | apply Q.alloc | refine Q.step ?_ (by assumption)) : Q w _)⟩
  · have hd : ((c : Int) == 0) = false := by rw [beq_eq_false_iff_ne]; omega
    have hc1 : 1 ≤ c := by omega
    have y1 := mod_le (a := a) h0 hc
    have y2 := mod_le (a := b) h0 hc
    have e1 := beq_true (Pol.mod (a ^^^ b) c) (Pol.mod a c ^^^ Pol.mod b c) (Pol.mod_xor a b c)
    clear h0
    go_enter Try.func9, Try.ntmps9
    go_wp2_with (first
      | (go_at_call 15; (with_reducible refine (mul_nat _ _ _ (by assumption) (by assumption)).mono ?_); rintro e w' ⟨rfl, rfl⟩)
      | (go_at_call 17; (with_reducible refine (div_nat _ _ _ (by assumption) (by assumption) (by assumption)).mono ?_); rintro e w' ⟨rfl, rfl⟩)
      | (go_at_call 19; (with_reducible refine (mulMod_one _ _ _ (by assumption) (by assumption) (by assumption)).mono ?_); rintro e w' ⟨rfl, rfl⟩)
      | (go_at_call 11; (with_reducible refine (add_lit _ _ _ _ _ (by simp) (by assumption) (by assumption)).mono ?_); rintro e w' ⟨rfl, rfl⟩)
      | (go_at_call 12; (with_reducible refine (bits_true _).mono ?_); rintro e w' ⟨rfl, hb1⟩))
    go_ret
    exact ⟨rfl, (by repeat (first | exact Q.refl _ | apply Q.alloc | refine Q.step ?_ (by assumption)) : Q w _)⟩

theorem spreads_true (a : Int) (wa : (Lit.int .u64 a).wf = true) (b : Int) (wb : (Lit.int .u64 b).wf = true) (c : Int) (wc : (Lit.int .u64 c).wf = true) (w : World) :
    Calls Try.prog 9 #[.int .u64 a, .int .u64 b, .int .u64 c] w fun e w' => e = .returned (.bool true) ∧ Below w.heap.size w w' := by
  obtain ⟨ha, ha'⟩ := wf64 wa
  obtain ⟨hb, hb'⟩ := wf64 wb
  obtain ⟨hc, hc'⟩ := wf64 wc
  obtain ⟨A, rfl⟩ := Int.eq_ofNat_of_zero_le ha
  obtain ⟨B, rfl⟩ := Int.eq_ofNat_of_zero_le hb
  obtain ⟨C, rfl⟩ := Int.eq_ofNat_of_zero_le hc
  exact spreads_nat A B C (by omega) (by omega) (by omega) w
end Go.Proofs.Ytgilaklgpopjeaa
