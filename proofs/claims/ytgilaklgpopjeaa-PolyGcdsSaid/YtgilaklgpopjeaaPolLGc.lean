/- The walk through the law PolyGcds. -/
import Derived.Test.YtgilaklgpopjeaaPolB
import Derived.Test.YtgilaklgpopjeaaPolH
namespace Go.Proofs.Ytgilaklgpopjeaa
open Go.RowKit
theorem Gc.bneF (x y : Nat) (h : x = y) : ((x : Int) != (y : Int)) = false := by subst h; simp
theorem Gc.beqT (x y : Nat) (h : x = y) : ((x : Int) == (y : Int)) = true := by subst h; simp

theorem gcd_lit3 (x y z g : Nat) (t : TypeId) (w : World) (hg : g = w.heap.size) (hx : x ≤ 18446744073709551615) (hy : y ≤ 18446744073709551615) (hz : z ≤ 18446744073709551615) :
    Calls Try.prog 22 #[.slice (some ⟨g, 0, none⟩) 3 3] (w.alloc (.cells #[.int .u64 (x : Int), .int .u64 (y : Int), .int .u64 (z : Int)] t)) fun e w' => e = .returned (.int .u64 (Pol.gcd (Pol.gcd x y) z : Nat)) ∧ w.alloc (.cells #[.int .u64 (x : Int), .int .u64 (y : Int), .int .u64 (z : Int)] t) = w' := by
  subst hg
  exact (gcd_nat _ 3 _ [x, y, z] _ (SeesP.new w [P64 x, P64 y, P64 z] t) (by simp) (by simp [hx, hy, hz])).mono fun e w' h => by simpa [P64, Pol.gcdL, Pol.zero_gcd] using h
theorem gcd_lit4 (x y z g : Nat) (t : TypeId) (w : World) (hg : g = w.heap.size) (hx : x ≤ 18446744073709551615) (hy : y ≤ 18446744073709551615) (hz : z ≤ 18446744073709551615) :
    Calls Try.prog 22 #[.slice (some ⟨g, 0, none⟩) 4 4] (w.alloc (.cells #[.int .u64 (x : Int), .int .u64 0, .int .u64 (y : Int), .int .u64 (z : Int)] t)) fun e w' => e = .returned (.int .u64 (Pol.gcd (Pol.gcd x y) z : Nat)) ∧ w.alloc (.cells #[.int .u64 (x : Int), .int .u64 0, .int .u64 (y : Int), .int .u64 (z : Int)] t) = w' := by
  subst hg
  exact (gcd_nat _ 4 _ [x, 0, y, z] _ (SeesP.new w [P64 x, P64 0, P64 y, P64 z] t) (by simp) (by simp [hx, hy, hz])).mono fun e w' h => by simpa [P64, Pol.gcdL, Pol.zero_gcd, Pol.gcd_zero] using h
theorem gcd_lit1 (x g : Nat) (t : TypeId) (w : World) (hg : g = w.heap.size) (hx : x ≤ 18446744073709551615) :
    Calls Try.prog 22 #[.slice (some ⟨g, 0, none⟩) 1 1] (w.alloc (.cells #[.int .u64 (x : Int)] t)) fun e w' => e = .returned (.int .u64 (x : Nat)) ∧ w.alloc (.cells #[.int .u64 (x : Int)] t) = w' := by
  subst hg
  exact (gcd_nat _ 1 _ [x] _ (SeesP.new w [P64 x] t) (by simp) (by simp [hx])).mono fun e w' h => by simpa [P64, Pol.gcdL, Pol.zero_gcd] using h
theorem gcd_lit0 (w : World) :
    Calls Try.prog 22 #[.slice none 0 0] w fun e w' => e = .returned (.int .u64 0) ∧ w = w' :=
  (gcd_nat none 0 0 [] w (SeesP.nil _ _ _) (by simp) (by simp)).mono fun e w' h => by simpa [Pol.gcdL] using h

set_option maxHeartbeats 8000000 in
set_option maxRecDepth 100000 in
theorem gcds_nat (a b c : Nat) (ha : a ≤ 18446744073709551615) (hb : b ≤ 18446744073709551615) (hc : c ≤ 18446744073709551615) (w : World) :
    Calls Try.prog 7 #[.int .u64 (a : Int), .int .u64 (b : Int), .int .u64 (c : Int)] w fun e w' => e = .returned (.bool true) ∧ Below w.heap.size w w' := by
  have x1 := Pol.gcd_le ha hb
  have x2 := Pol.gcd_le x1 hc
  have e1 := Gc.bneF (Pol.gcd (Pol.gcd c b) a) (Pol.gcd (Pol.gcd a b) c) (by rw [Pol.gcd_comm, Pol.gcd_comm c b, Pol.gcd_assoc])
  by_cases h0 : Pol.gcd (Pol.gcd a b) c = 0
  · obtain ⟨h1, h2⟩ := Pol.gcd_eq_zero h0
    obtain ⟨h3, h4⟩ := Pol.gcd_eq_zero h1
    have g0 : ((Pol.gcd (Pol.gcd a b) c : Nat) == (0 : Int)) = true := by rw [h0]; rfl
    have g1 : ((a : Int) == 0) = true := by rw [h3]; rfl
    have g2 : ((b : Int) == 0) = true := by rw [h4]; rfl
    have g3 : ((c : Int) == 0) = true := by rw [h2]; rfl
    clear h0 h1 h2 h3 h4
    go_enter Try.func7, Try.ntmps7
    go_wp2_with (first
      | (go_at_call 22; (first | (with_reducible refine (gcd_lit3 _ _ _ _ _ _ (by simp) (by assumption) (by assumption) (by assumption)).mono ?_) | (with_reducible refine (gcd_lit4 _ _ _ _ _ _ (by simp) (by assumption) (by assumption) (by assumption)).mono ?_) | (with_reducible refine (gcd_lit0 _).mono ?_) | (with_reducible refine (gcd_lit1 _ _ _ _ (by simp) (by assumption)).mono ?_)); rintro e w' ⟨rfl, rfl⟩)
      | (first
    | (go_at_call 15; (with_reducible refine (mul_nat _ _ _ (by assumption) (by assumption)).mono ?_); rintro e w' ⟨rfl, rfl⟩)
    | (go_at_call 17; (with_reducible refine (div_nat _ _ _ (by assumption) (by assumption) (by assumption)).mono ?_); rintro e w' ⟨rfl, rfl⟩)
    | (go_at_call 19; (with_reducible refine (mulMod_nat _ _ _ _ (by assumption) (by assumption) (by assumption) (by assumption)).mono ?_); rintro e w' ⟨rfl, rfl⟩)
    | (go_at_call 11; (with_reducible refine (add_lit _ _ _ _ _ (by simp) (by assumption) (by assumption)).mono ?_); rintro e w' ⟨rfl, rfl⟩)
    | (go_at_call 13; (with_reducible refine (deg_nat _ _ (by assumption)).mono ?_); rintro e w' ⟨rfl, rfl⟩)
    | (go_at_call 16; (with_reducible refine (refMul_nat _ _ _ (by assumption) (by assumption)).mono ?_); rintro e w' ⟨rfl, hqc⟩)
    | (go_at_call 18; (with_reducible refine (refDiv_nat _ _ _ (by assumption) (by assumption) (by assumption)).mono ?_); rintro e w' ⟨rfl, hqc⟩)
    | (go_at_call 20; (with_reducible refine (refMulMod_nat _ _ _ _ (by assumption) (by assumption) (by assumption) (by assumption)).mono ?_); rintro e w' ⟨rfl, hqc⟩)
    | (go_at_call 14; (with_reducible refine (refDeg_nat _ _ (by assumption)).mono ?_); rintro e w' ⟨rfl, hqc⟩)
    | (go_at_call 21; (with_reducible refine (refGcd_nat _ _ _ (by assumption) (by assumption)).mono ?_); rintro e w' ⟨rfl, hqc⟩)
    | (go_at_call 12; (with_reducible refine (bits_true _).mono ?_); rintro e w' ⟨rfl, hqc⟩)))
    go_ret
    exact ⟨rfl, (by repeat (first | exact Q.refl _ | apply Q.alloc | refine Q.step ?_ (by assumption)) : Q w _)⟩
  · have g0 : ((Pol.gcd (Pol.gcd a b) c : Nat) == (0 : Int)) = false := by rw [beq_eq_false_iff_ne]; omega
    have hd : Pol.Dv (Pol.gcd (Pol.gcd a b) c) (Pol.gcd a b) := Pol.gcd_left _ _
    have g1 : ((Pol.mod a (Pol.gcd (Pol.gcd a b) c) : Nat) == (0 : Int)) = true := by rw [(Pol.dv_iff h0).1 (Pol.dv_trans hd (Pol.gcd_left _ _))]; rfl
    have g2 : ((Pol.mod b (Pol.gcd (Pol.gcd a b) c) : Nat) == (0 : Int)) = true := by rw [(Pol.dv_iff h0).1 (Pol.dv_trans hd (Pol.gcd_right _ _))]; rfl
    have g3 : ((Pol.mod c (Pol.gcd (Pol.gcd a b) c) : Nat) == (0 : Int)) = true := by rw [(Pol.dv_iff h0).1 (Pol.gcd_right _ _)]; rfl
    have hg1 : 1 ≤ Pol.gcd (Pol.gcd a b) c := by omega
    clear h0 hd
    go_enter Try.func7, Try.ntmps7
    go_wp2_with (first
      | (go_at_call 22; (first | (with_reducible refine (gcd_lit3 _ _ _ _ _ _ (by simp) (by assumption) (by assumption) (by assumption)).mono ?_) | (with_reducible refine (gcd_lit4 _ _ _ _ _ _ (by simp) (by assumption) (by assumption) (by assumption)).mono ?_) | (with_reducible refine (gcd_lit0 _).mono ?_) | (with_reducible refine (gcd_lit1 _ _ _ _ (by simp) (by assumption)).mono ?_)); rintro e w' ⟨rfl, rfl⟩)
      | (first
    | (go_at_call 15; (with_reducible refine (mul_nat _ _ _ (by assumption) (by assumption)).mono ?_); rintro e w' ⟨rfl, rfl⟩)
    | (go_at_call 17; (with_reducible refine (div_nat _ _ _ (by assumption) (by assumption) (by assumption)).mono ?_); rintro e w' ⟨rfl, rfl⟩)
    | (go_at_call 19; (with_reducible refine (mulMod_nat _ _ _ _ (by assumption) (by assumption) (by assumption) (by assumption)).mono ?_); rintro e w' ⟨rfl, rfl⟩)
    | (go_at_call 11; (with_reducible refine (add_lit _ _ _ _ _ (by simp) (by assumption) (by assumption)).mono ?_); rintro e w' ⟨rfl, rfl⟩)
    | (go_at_call 13; (with_reducible refine (deg_nat _ _ (by assumption)).mono ?_); rintro e w' ⟨rfl, rfl⟩)
    | (go_at_call 16; (with_reducible refine (refMul_nat _ _ _ (by assumption) (by assumption)).mono ?_); rintro e w' ⟨rfl, hqc⟩)
    | (go_at_call 18; (with_reducible refine (refDiv_nat _ _ _ (by assumption) (by assumption) (by assumption)).mono ?_); rintro e w' ⟨rfl, hqc⟩)
    | (go_at_call 20; (with_reducible refine (refMulMod_nat _ _ _ _ (by assumption) (by assumption) (by assumption) (by assumption)).mono ?_); rintro e w' ⟨rfl, hqc⟩)
    | (go_at_call 14; (with_reducible refine (refDeg_nat _ _ (by assumption)).mono ?_); rintro e w' ⟨rfl, hqc⟩)
    | (go_at_call 21; (with_reducible refine (refGcd_nat _ _ _ (by assumption) (by assumption)).mono ?_); rintro e w' ⟨rfl, hqc⟩)
    | (go_at_call 12; (with_reducible refine (bits_true _).mono ?_); rintro e w' ⟨rfl, hqc⟩)))
    go_ret
    exact ⟨rfl, (by repeat (first | exact Q.refl _ | apply Q.alloc | refine Q.step ?_ (by assumption)) : Q w _)⟩

theorem gcds_true (a : Int) (wa : (Lit.int .u64 a).wf = true) (b : Int) (wb : (Lit.int .u64 b).wf = true) (c : Int) (wc : (Lit.int .u64 c).wf = true) (w : World) :
    Calls Try.prog 7 #[.int .u64 a, .int .u64 b, .int .u64 c] w fun e w' => e = .returned (.bool true) ∧ Below w.heap.size w w' := by
  obtain ⟨ha, ha'⟩ := wf64 wa
  obtain ⟨A, rfl⟩ := Int.eq_ofNat_of_zero_le ha
  obtain ⟨hb, hb'⟩ := wf64 wb
  obtain ⟨B, rfl⟩ := Int.eq_ofNat_of_zero_le hb
  obtain ⟨hc, hc'⟩ := wf64 wc
  obtain ⟨C, rfl⟩ := Int.eq_ofNat_of_zero_le hc
  exact gcds_nat A B C (by omega) (by omega) (by omega) w
end Go.Proofs.Ytgilaklgpopjeaa
