/- The walk through the law PolyDivs. -/
import Derived.Test.YtgilaklgpopjeaaPolB
import Derived.Test.YtgilaklgpopjeaaPolH
namespace Go.Proofs.Ytgilaklgpopjeaa
open Go.RowKit
theorem Di.bneF (x y : Nat) (h : x = y) : ((x : Int) != (y : Int)) = false := by subst h; simp
theorem Di.beqT (x y : Nat) (h : x = y) : ((x : Int) == (y : Int)) = true := by subst h; simp

set_option maxHeartbeats 8000000 in
set_option maxRecDepth 100000 in
theorem divs_nat (a b : Nat) (ha : a ≤ 18446744073709551615) (hb : b ≤ 18446744073709551615) (w : World) :
    Calls Try.prog 5 #[.int .u64 (a : Int), .int .u64 (b : Int)] w fun e w' => e = .returned (.bool true) ∧ Below w.heap.size w w' := by
  by_cases h0 : b = 0
  · subst h0
    have HD := Lib.hid (fun w => div_none a w)
    have HR := Lib.hid (fun w => refDiv_none a w)
    go_enter Try.func5, Try.ntmps5
    go_wp2_with (first
      | (go_at_call 17; (with_reducible refine (HD.out _).mono ?_); rintro e w' ⟨rfl, rfl⟩)
      | (go_at_call 18; (with_reducible refine (HR.out _).mono ?_); rintro e w' ⟨rfl, hqc⟩)
      | (go_at_call 12; (with_reducible refine (bits_true _).mono ?_); rintro e w' ⟨rfl, hqc⟩))
    go_ret
    exact ⟨rfl, (by repeat (first | exact Q.refl _ | apply Q.alloc | refine Q.step ?_ (by assumption)) : Q w _)⟩
  · have g2 : ((b : Int) == 0) = false := by rw [beq_eq_false_iff_ne]; omega
    have hb1 : 1 ≤ b := by omega
    have x1 := div_le h0 ha
    have x2 := mod_le (a := a) h0 hb
    have hd := Pol.div_mod a h0
    have hml := Pol.mod_len a h0
    have hm : Pol.mul (Pol.div a b) b = a ^^^ Pol.mod a b := Pol.eq_xor hd
    have hlt := xor_le ha x2
    rw [← hm] at hlt
    have e1 : ((Pol.hi (Pol.mul (Pol.div a b) b) : Nat) == (0 : Int)) = true := by rw [Pol.hi_of_lt (by omega)]; rfl
    have e2 := Di.beqT (Pol.lo (Pol.mul (Pol.div a b) b) ^^^ Pol.mod a b) a (by rw [Pol.lo_of_lt (by omega)]; exact hd.symm)
    have x3 := Pol.lo_lt (Pol.mul (Pol.div a b) b)
    have e3 : decide ((Pol.len (Pol.mod a b) : Int) - 1 < (Pol.len b : Int) - 1) = true := decide_eq_true (by omega)
    have lb := Pol.len_le64 hb
    have lm := Pol.len_le64 x2
    clear h0 hd hm
    go_enter Try.func5, Try.ntmps5
    go_wp2_with (first
    | (go_at_call 15; (with_reducible refine (mul_nat _ _ _ (by assumption) (by assumption)).mono ?_); rintro e w' ⟨rfl, rfl⟩)
    | (go_at_call 17; (with_reducible refine (div_nat _ _ _ (by assumption) (by assumption) (by assumption)).mono ?_); rintro e w' ⟨rfl, rfl⟩)
    | (go_at_call 19; (with_reducible refine (mulMod_nat _ _ _ _ (by assumption) (by assumption) (by assumption) (by assumption)).mono ?_); rintro e w' ⟨rfl, rfl⟩)
    | (go_at_call 11; (with_reducible refine (add_lit _ _ _ _ _ (by simp) (by assumption) (by assumption)).mono ?_); rintro e w' ⟨rfl, rfl⟩)
    | (go_at_call 13; (with_reducible refine (deg_nat _ _ (by assumption)).mono ?_); rintro e w' ⟨rfl, rfl⟩)
    | (go_at_call 16; (with_reducible refine (refMul_nat _ _ _ (by assumption) (by assumption)).mono ?_); rintro e w' ⟨rfl, hqc⟩)
    | (go_at_call 18; (with_reducible refine (refDiv_nat _ _ _ (by assumption) (by assumption) (by assumption)).mono ?_); rintro e w' ⟨rfl, hqc⟩)
    | (go_at_call 20; (with_reducible refine (refMulMod_nat _ _ _ _ (by assumption) (by assumption) (by assumption) (by assumption)).mono ?_); rintro e w' ⟨rfl, hqc⟩)
    | (go_at_call 14; (with_reducible refine (refDeg_nat _ _ (by assumption)).mono ?_); rintro e w' ⟨rfl, hqc⟩)
    | (go_at_call 21; (with_reducible refine (refGcd_nat _ _ _ (by assumption) (by assumption)).mono ?_); rintro e w' ⟨rfl, hqc⟩)
    | (go_at_call 12; (with_reducible refine (bits_true _).mono ?_); rintro e w' ⟨rfl, hqc⟩))
    go_ret
    exact ⟨rfl, (by repeat (first | exact Q.refl _ | apply Q.alloc | refine Q.step ?_ (by assumption)) : Q w _)⟩

theorem divs_true (a : Int) (wa : (Lit.int .u64 a).wf = true) (b : Int) (wb : (Lit.int .u64 b).wf = true) (w : World) :
    Calls Try.prog 5 #[.int .u64 a, .int .u64 b] w fun e w' => e = .returned (.bool true) ∧ Below w.heap.size w w' := by
  obtain ⟨ha, ha'⟩ := wf64 wa
  obtain ⟨A, rfl⟩ := Int.eq_ofNat_of_zero_le ha
  obtain ⟨hb, hb'⟩ := wf64 wb
  obtain ⟨B, rfl⟩ := Int.eq_ofNat_of_zero_le hb
  exact divs_nat A B (by omega) (by omega) w
end Go.Proofs.Ytgilaklgpopjeaa
