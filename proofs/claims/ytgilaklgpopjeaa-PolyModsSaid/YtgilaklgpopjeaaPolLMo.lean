/- The walk through the law PolyMods. -/
import Derived.Test.YtgilaklgpopjeaaPolB
import Derived.Test.YtgilaklgpopjeaaPolH
namespace Go.Proofs.Ytgilaklgpopjeaa
open Go.RowKit
theorem Mo.bneF (x y : Nat) (h : x = y) : ((x : Int) != (y : Int)) = false := by subst h; simp
theorem Mo.beqT (x y : Nat) (h : x = y) : ((x : Int) == (y : Int)) = true := by subst h; simp

set_option maxHeartbeats 8000000 in
set_option maxRecDepth 100000 in
theorem mods_nat (a b c : Nat) (ha : a ≤ 18446744073709551615) (hb : b ≤ 18446744073709551615) (hc : c ≤ 18446744073709551615) (w : World) :
    Calls Try.prog 6 #[.int .u64 (a : Int), .int .u64 (b : Int), .int .u64 (c : Int)] w fun e w' => e = .returned (.bool true) ∧ Below w.heap.size w w' := by
  by_cases h0 : c = 0
  · subst h0
    have HD := Lib.hid (fun w => mulMod_none a b w)
    have HR := Lib.hid (fun w => refMulMod_none a b w)
    go_enter Try.func6, Try.ntmps6
    go_wp2_with (first
      | (go_at_call 19; (with_reducible refine (HD.out _).mono ?_); rintro e w' ⟨rfl, rfl⟩)
      | (go_at_call 20; (with_reducible refine (HR.out _).mono ?_); rintro e w' ⟨rfl, hqc⟩)
      | (go_at_call 12; (with_reducible refine (bits_true _).mono ?_); rintro e w' ⟨rfl, hqc⟩))
    go_ret
    exact ⟨rfl, (by repeat (first | exact Q.refl _ | apply Q.alloc | refine Q.step ?_ (by assumption)) : Q w _)⟩
  · have hc1 : 1 ≤ c := by omega
    have x1 := mod_le (a := Pol.mul a b) h0 hc
    have e1 := Mo.beqT (Pol.mod (Pol.mul (Pol.mod (Pol.mul a b) c) a) c) (Pol.mod (Pol.mul a (Pol.mod (Pol.mul a b) c)) c) (by rw [Pol.mul_comm])
    clear h0
    go_enter Try.func6, Try.ntmps6
    go_wp2_with (first
    | (go_at_call 15; (with_reducible refine (mul_nat _ _ _ (by assumption) (by assumption)).mono ?_); rintro e w' ⟨rfl, rfl⟩)
    | (go_at_call 17; (with_reducible refine (div_nat _ _ _ (by assumption) (by assumption) (by assumption)).mono ?_); rintro e w' ⟨rfl, rfl⟩)
    | (go_at_call 19; (with_reducible refine (mulMod_nat _ _ _ _ (by assumption) (by assumption) (by assumption) (by assumption)).mono ?_); rintro e w' ⟨rfl, rfl⟩)
    | (go_at_call 11; (with_reducible refine (add_lit _ _ _ _ _ (by simp) (by assumption) (by assumption)).mono ?_); rintro e w' ⟨rfl, rfl⟩)
    | (go_at_call 13; (with_reducible refine (deg_nat _ _ (by assumption)).mono ?_); rintro e w' ⟨rfl, rfl⟩)
    | (go_at_call 16; (with_reducible refine (refMul_nat _ _ _ (by assumption) (by assumption)).mono ?_); rintro e w' ⟨rfl, hqc⟩)
    | (go_at_call 18; (with_reducible refine (refDiv_nat _ _ _ (by assumption) (by assumption) (by assumption)).mono ?_); rintro e w' ⟨rfl, hqc⟩)
    | (go_at_call 20; (with_reducible refine (refMulMod_nat _ _ _ _ (by assumption) (by assumption) (by assumption) (by assumption)).mono ?_); rintro e w' ⟨rfl, hqc⟩)
    | (go_at_call 14; (with_reducible refine (refDeg_nat _ _ (by assumption)).mono ?_); rintro e w' ⟨rfl, hqc⟩)
    | (go_at_call 21; (with_reducible refine (refGcd_nat _ _ _ (by assumption) (by assumption)).mono ?_); rintro e w' ⟨rfl, hqc⟩)
    | (go_at_call 12; (with_reducible refine (bits_true _).mono ?_); rintro e w' ⟨rfl, hqc⟩))
    go_ret
    exact ⟨rfl, (by repeat (first | exact Q.refl _ | apply Q.alloc | refine Q.step ?_ (by assumption)) : Q w _)⟩

theorem mods_true (a : Int) (wa : (Lit.int .u64 a).wf = true) (b : Int) (wb : (Lit.int .u64 b).wf = true) (c : Int) (wc : (Lit.int .u64 c).wf = true) (w : World) :
    Calls Try.prog 6 #[.int .u64 a, .int .u64 b, .int .u64 c] w fun e w' => e = .returned (.bool true) ∧ Below w.heap.size w w' := by
  obtain ⟨ha, ha'⟩ := wf64 wa
  obtain ⟨A, rfl⟩ := Int.eq_ofNat_of_zero_le ha
  obtain ⟨hb, hb'⟩ := wf64 wb
  obtain ⟨B, rfl⟩ := Int.eq_ofNat_of_zero_le hb
  obtain ⟨hc, hc'⟩ := wf64 wc
  obtain ⟨C, rfl⟩ := Int.eq_ofNat_of_zero_le hc
  exact mods_nat A B C (by omega) (by omega) (by omega) w
end Go.Proofs.Ytgilaklgpopjeaa
