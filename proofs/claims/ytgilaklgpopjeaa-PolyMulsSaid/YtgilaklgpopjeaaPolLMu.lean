/- The walk through the law PolyMuls. -/
import Derived.Test.YtgilaklgpopjeaaPolB
import Derived.Test.YtgilaklgpopjeaaPolH
namespace Go.Proofs.Ytgilaklgpopjeaa
open Go.RowKit
theorem Mu.bneF (x y : Nat) (h : x = y) : ((x : Int) != (y : Int)) = false := by subst h; simp
theorem Mu.beqT (x y : Nat) (h : x = y) : ((x : Int) == (y : Int)) = true := by subst h; simp

set_option maxHeartbeats 8000000 in
set_option maxRecDepth 100000 in
theorem muls_nat (a b : Nat) (ha : a ≤ 18446744073709551615) (hb : b ≤ 18446744073709551615) (w : World) :
    Calls Try.prog 4 #[.int .u64 (a : Int), .int .u64 (b : Int)] w fun e w' => e = .returned (.bool true) ∧ Below w.heap.size w w' := by
  have x1 := Pol.hi_mul_lt ha hb
  have x2 := Pol.lo_lt (Pol.mul a b)
  have d1 := Mu.bneF (Pol.hi (Pol.mul b a)) (Pol.hi (Pol.mul a b)) (by rw [Pol.mul_comm])
  have d2 := Mu.bneF (Pol.lo (Pol.mul b a)) (Pol.lo (Pol.mul a b)) (by rw [Pol.mul_comm])
  by_cases h0 : a = 0 ∨ b = 0
  · have hm : Pol.mul a b = 0 := Pol.mul_eq_zero.2 h0
    have e1 : ((Pol.hi (Pol.mul a b) : Nat) == (0 : Int)) = true := by rw [hm]; rfl
    have e2 : ((Pol.lo (Pol.mul a b) : Nat) == (0 : Int)) = true := by rw [hm]; rfl
    clear hm
    by_cases ha0 : a = 0
    · have g1 : ((a : Int) == 0) = true := by subst ha0; rfl
      clear ha0 h0
      go_enter Try.func4, Try.ntmps4
      go_wp2_with (first
    | (go_at_call 15; (with_reducible refine (mul_nat _ _ _ (by assumption) (by assumption)).mono ?_); rintro e w' ⟨rfl, rfl⟩)
    | (go_at_call 17; (with_reducible refine (div_nat _ _ _ (by assumption) (by assumption) (by assumption)).mono ?_); rintro e w' ⟨rfl, rfl⟩)
    | (go_at_call 19; (with_reducible refine (mulMod_nat _ _ _ _ (by assumption) (by assumption) (by assumption) (by assumption)).mono ?_); rintro e w' ⟨rfl, rfl⟩)
    | (go_at_call 11; (with_reducible refine (add_lit _ _ _ _ _ (by simp) (by assumption) (by assumption)).mono ?_); rintro e w' ⟨rfl, rfl⟩)
    | (go_at_call 13; (with_reducible refine (deg_nat _ _ (by assumption)).mono ?_); rintro e w' ⟨rfl, rfl⟩)
    | (go_at_call 16; (with_reducible refine (refMul_nat _ _ _ (by assumption) (by assumption)).mono ?_); rintro e w' ⟨rfl, hqc⟩)
    | (go_at_call 18; (with_reducible refine (refDiv_nat _ _ _ (by assumption) (by assumption) (by assumption)).mono ?_); rintro e w' ⟨rfl, hqc⟩)
    | (go_at_call 20; (with_reducible refine (refMulMod_nat _ _ _ _ (by assumption) (by assumption) (by assumption) (by assumption)).mono ?_); rintro e w' ⟨rfl, hqc⟩)
    | (go_at_call 14; (with_reducible refine (refDeg_nat _ _ (by assumption)).mono ?_); rintro e w' ⟨rfl, hqc⟩)
    | (go_at_call 21; (with_reducible refine (refGcd_nat _ _ _ (by assumption) (by assumption)).mono ?_); rintro e w' ⟨rfl, hqc⟩)
    | (go_at_call 12; (with_reducible refine (bits_true _).mono ?_); rintro e w' ⟨rfl, hqc⟩))
      go_ret
      exact ⟨rfl, (by repeat (first | exact Q.refl _ | apply Q.alloc | refine Q.step ?_ (by assumption)) : Q w _)⟩
    · have g1 : ((a : Int) == 0) = false := by rw [beq_eq_false_iff_ne]; omega
      have hb0 : b = 0 := by omega
      have g2 : ((b : Int) == 0) = true := by subst hb0; rfl
      clear ha0 h0 hb0
      go_enter Try.func4, Try.ntmps4
      go_wp2_with (first
    | (go_at_call 15; (with_reducible refine (mul_nat _ _ _ (by assumption) (by assumption)).mono ?_); rintro e w' ⟨rfl, rfl⟩)
    | (go_at_call 17; (with_reducible refine (div_nat _ _ _ (by assumption) (by assumption) (by assumption)).mono ?_); rintro e w' ⟨rfl, rfl⟩)
    | (go_at_call 19; (with_reducible refine (mulMod_nat _ _ _ _ (by assumption) (by assumption) (by assumption) (by assumption)).mono ?_); rintro e w' ⟨rfl, rfl⟩)
    | (go_at_call 11; (with_reducible refine (add_lit _ _ _ _ _ (by simp) (by assumption) (by assumption)).mono ?_); rintro e w' ⟨rfl, rfl⟩)
    | (go_at_call 13; (with_reducible refine (deg_nat _ _ (by assumption)).mono ?_); rintro e w' ⟨rfl, rfl⟩)
    | (go_at_call 16; (with_reducible refine (refMul_nat _ _ _ (by assumption) (by assumption)).mono ?_); rintro e w' ⟨rfl, hqc⟩)
    | (go_at_call 18; (with_reducible refine (refDiv_nat _ _ _ (by assumption) (by assumption) (by assumption)).mono ?_); rintro e w' ⟨rfl, hqc⟩)
    | (go_at_call 20; (with_reducible refine (refMulMod_nat _ _ _ _ (by assumption) (by assumption) (by assumption) (by assumption)).mono ?_); rintro e w' ⟨rfl, hqc⟩)
    | (go_at_call 14; (with_reducible refine (refDeg_nat _ _ (by assumption)).mono ?_); rintro e w' ⟨rfl, hqc⟩)
    | (go_at_call 21; (with_reducible refine (refGcd_nat _ _ _ (by assumption) (by assumption)).mono ?_); rintro e w' ⟨rfl, hqc⟩)
    | (go_at_call 12; (with_reducible refine (bits_true _).mono ?_); rintro e w' ⟨rfl, hqc⟩))
      go_ret
      exact ⟨rfl, (by repeat (first | exact Q.refl _ | apply Q.alloc | refine Q.step ?_ (by assumption)) : Q w _)⟩
  · have g1 : ((a : Int) == 0) = false := by rw [beq_eq_false_iff_ne]; omega
    have g2 : ((b : Int) == 0) = false := by rw [beq_eq_false_iff_ne]; omega
    have hl := Pol.mul_ne_zero_len (a := a) (b := b) (by omega) (by omega)
    have la := Pol.len_le64 ha
    have lb := Pol.len_le64 hb
    by_cases hz : Pol.hi (Pol.mul a b) = 0
    · have e1 : ((Pol.hi (Pol.mul a b) : Nat) != (0 : Int)) = false := by rw [hz]; rfl
      have hlo : Pol.lo (Pol.mul a b) = Pol.mul a b := by unfold Pol.hi at hz; unfold Pol.lo; omega
      have e3 : ((Pol.len (Pol.lo (Pol.mul a b)) : Int) - 1 == (Pol.len a : Int) - 1 + ((Pol.len b : Int) - 1)) = true := by rw [hlo, beq_iff_eq]; omega
      clear hz hlo h0 hl
      have ll := Pol.len_le64 x2
      go_enter Try.func4, Try.ntmps4
      go_wp2_with (first
    | (go_at_call 15; (with_reducible refine (mul_nat _ _ _ (by assumption) (by assumption)).mono ?_); rintro e w' ⟨rfl, rfl⟩)
    | (go_at_call 17; (with_reducible refine (div_nat _ _ _ (by assumption) (by assumption) (by assumption)).mono ?_); rintro e w' ⟨rfl, rfl⟩)
    | (go_at_call 19; (with_reducible refine (mulMod_nat _ _ _ _ (by assumption) (by assumption) (by assumption) (by assumption)).mono ?_); rintro e w' ⟨rfl, rfl⟩)
    | (go_at_call 11; (with_reducible refine (add_lit _ _ _ _ _ (by simp) (by assumption) (by assumption)).mono ?_); rintro e w' ⟨rfl, rfl⟩)
    | (go_at_call 13; (with_reducible refine (deg_nat _ _ (by assumption)).mono ?_); rintro e w' ⟨rfl, rfl⟩)
    | (go_at_call 16; (with_reducible refine (refMul_nat _ _ _ (by assumption) (by assumption)).mono ?_); rintro e w' ⟨rfl, hqc⟩)
    | (go_at_call 18; (with_reducible refine (refDiv_nat _ _ _ (by assumption) (by assumption) (by assumption)).mono ?_); rintro e w' ⟨rfl, hqc⟩)
    | (go_at_call 20; (with_reducible refine (refMulMod_nat _ _ _ _ (by assumption) (by assumption) (by assumption) (by assumption)).mono ?_); rintro e w' ⟨rfl, hqc⟩)
    | (go_at_call 14; (with_reducible refine (refDeg_nat _ _ (by assumption)).mono ?_); rintro e w' ⟨rfl, hqc⟩)
    | (go_at_call 21; (with_reducible refine (refGcd_nat _ _ _ (by assumption) (by assumption)).mono ?_); rintro e w' ⟨rfl, hqc⟩)
    | (go_at_call 12; (with_reducible refine (bits_true _).mono ?_); rintro e w' ⟨rfl, hqc⟩))
      go_ret
      exact ⟨rfl, (by repeat (first | exact Q.refl _ | apply Q.alloc | refine Q.step ?_ (by assumption)) : Q w _)⟩
    · have e1 : ((Pol.hi (Pol.mul a b) : Nat) != (0 : Int)) = true := by rw [bne_iff_ne]; omega
      have hh := Pol.len_hi hz
      have e3 : ((64 : Int) + ((Pol.len (Pol.hi (Pol.mul a b)) : Int) - 1) == (Pol.len a : Int) - 1 + ((Pol.len b : Int) - 1)) = true := by rw [beq_iff_eq]; omega
      clear hz hh h0 hl
      have ll := Pol.len_le64 x2
      have lh := Pol.len_le64 x1
      go_enter Try.func4, Try.ntmps4
      go_wp2_with (first
    | (go_at_call 15; (with_reducible refine (mul_nat _ _ _ (by assumption) (by assumption)).mono ?_); rintro e w' ⟨rfl, rfl⟩)
    | (go_at_call 17; (with_reducible refine (div_nat _ _ _ (by assumption) (by assumption) (by assumption)).mono ?_); rintro e w' ⟨rfl, rfl⟩)
    | (go_at_call 19; (with_reducible refine (mulMod_nat _ _ _ _ (by assumption) (by assumption) (by assumption) (by assumption)).mono ?_); rintro e w' ⟨rfl, rfl⟩)
    | (go_at_call 11; (with_reducible refine (add_lit _ _ _ _ _ (by simp) (by assumption) (by assumption)).mono ?_); rintro e w' ⟨rfl, rfl⟩)
    | (go_at_call 13; (with_reducible refine (deg_nat _ _ (by assumption)).mono ?_); rintro e w' ⟨rfl, rfl⟩)
    | (go_at_call 16; (with_reducible refine (refMul_nat _ _ _ (by assumption) (by assumption)).mono ?_); rintro e w' ⟨rfl, hqc⟩)
    | (go_at_call 18; (with_reducible refine (refDiv_nat _ _ _ (by assumption) (by assumption) (by assumption)).mono ?_); rintro e w' ⟨rfl, hqc⟩)
    | (go_at_call 20; (with_reducible refine (refMulMod_nat _ _ _ _ (by assumption) (by assumption) (by assumption) (by assumption)).mono ?_); rintro e w' ⟨rfl, hqc⟩)
    | (go_at_call 14; (with_reducible refine (refDeg_nat _ _ (by assumption)).mono ?_); rintro e w' ⟨rfl, hqc⟩)
    | (go_at_call 21; (with_reducible refine (refGcd_nat _ _ _ (by assumption) (by assumption)).mono ?_); rintro e w' ⟨rfl, hqc⟩)
    | (go_at_call 12; (with_reducible refine (bits_true _).mono ?_); rintro e w' ⟨rfl, hqc⟩))
      go_ret
      exact ⟨rfl, (by repeat (first | exact Q.refl _ | apply Q.alloc | refine Q.step ?_ (by assumption)) : Q w _)⟩

theorem muls_true (a : Int) (wa : (Lit.int .u64 a).wf = true) (b : Int) (wb : (Lit.int .u64 b).wf = true) (w : World) :
    Calls Try.prog 4 #[.int .u64 a, .int .u64 b] w fun e w' => e = .returned (.bool true) ∧ Below w.heap.size w w' := by
  obtain ⟨ha, ha'⟩ := wf64 wa
  obtain ⟨A, rfl⟩ := Int.eq_ofNat_of_zero_le ha
  obtain ⟨hb, hb'⟩ := wf64 wb
  obtain ⟨B, rfl⟩ := Int.eq_ofNat_of_zero_le hb
  exact muls_nat A B (by omega) (by omega) w
end Go.Proofs.Ytgilaklgpopjeaa
