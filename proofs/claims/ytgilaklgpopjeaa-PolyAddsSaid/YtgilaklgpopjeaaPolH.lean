/- The walks through the document's answers of chapter 3, at last: Mul, Div, MulMod, Gcd, Prime. -/
import Derived.Test.YtgilaklgpopjeaaPolG
namespace Go.Proofs.Ytgilaklgpopjeaa
open Go.RowKit

theorem bitsL_map (p n : Nat) : bitsL p n = ((List.range n).map fun i => p.testBit i).map .bool := by simp [bitsL]
theorem numL_min (p n : Nat) : numL ((List.range n).map fun i => p.testBit i) = p % 2 ^ min 64 n := by
  unfold numL
  rw [← List.map_take, List.take_range, foldr_bits]

theorem number_bits (g c n p : Nat) (w : World) (h : Bits w g n p) (hn : n ≤ 128) (hp : p < 2 ^ n) (hp' : p ≤ 18446744073709551615) :
    Calls Try.prog 28 #[.slice (some ⟨g, 0, none⟩) n c] w fun e w' => e = .returned (.int .u64 (p : Nat)) ∧ w = w' := by
  have hs := h.sees (ok := fun _ => True) trivial
  rw [bitsL_map] at hs
  have := number_nat (some ⟨g, 0, none⟩) c _ _ w hs (by simp; omega)
  rw [numL_min, List.length_map, List.length_range] at this
  rwa [Nat.mod_eq_of_lt] at this
  rcases Nat.le_total 64 n with h | h
  · rw [Nat.min_eq_left h]; omega
  · rw [Nat.min_eq_right h]; exact hp
theorem number_low (g c p : Nat) (w : World) (h : Bits w g 128 p) :
    Calls Try.prog 28 #[.slice (some ⟨g, 0, none⟩) 64 c] w fun e w' => e = .returned (.int .u64 (Pol.lo p : Nat)) ∧ w = w' := by
  have h2 : Bits w g 64 p := by
    obtain ⟨m, f, hm, hr, hf⟩ := h
    exact ⟨m, f, by omega, hr, fun i hi => hf i (by omega)⟩
  have hs := h2.sees (ok := fun _ => True) trivial
  rw [bitsL_map] at hs
  have := number_nat (some ⟨g, 0, none⟩) c _ _ w hs (by simp)
  rwa [numL_min, List.length_map, List.length_range] at this
theorem number_high (g c p : Nat) (w : World) (h : Bits w g 128 p) (hp : p < 2 ^ 128) :
    Calls Try.prog 28 #[.slice (some ⟨g, 64, none⟩) 64 c] w fun e w' => e = .returned (.int .u64 (Pol.hi p : Nat)) ∧ w = w' := by
  have hs : SeesP w (fun _ => True) (some ⟨g, 64, none⟩) (bitsL (Pol.hi p) 64) := fun _ => ⟨g, 64, rfl, trivial, fun j u hu => by
    have hj : j < 64 := by have := (List.getElem?_eq_some_iff.1 hu).1; rwa [bitsL_len] at this
    rw [bitsL_get hj] at hu
    rw [h.cell (by omega), ← hu, Pol.hi, Nat.testBit_div_two_pow, Nat.add_comm]⟩
  rw [bitsL_map] at hs
  have := number_nat (some ⟨g, 64, none⟩) c _ _ w hs (by simp)
  rw [numL_min, List.length_map, List.length_range] at this
  rwa [Nat.mod_eq_of_lt (by unfold Pol.hi; rw [show min 64 64 = 64 from rfl]; have : p < 2 ^ 64 * 2 ^ 64 := by rw [← Nat.pow_add]; exact hp
                            exact Nat.div_lt_of_lt_mul this)] at this

set_option maxHeartbeats 1000000 in
theorem refMul_nat (a b : Nat) (w : World) (ha : a ≤ 18446744073709551615) (hb : b ≤ 18446744073709551615) :
    Calls Try.prog 16 #[.int .u64 (a : Int), .int .u64 (b : Int)] w fun e w' => e = .returned (.tuple #[.int .u64 (Pol.hi (Pol.mul a b) : Nat), .int .u64 (Pol.lo (Pol.mul a b) : Nat)]) ∧ Q w w' := by
  have hlt : Pol.mul a b < 2 ^ 128 := Pol.mul_lt (m := 64) (n := 64) (a := a) (b := b) (by omega) (by omega)
  go_enter Try.func16, Try.ntmps16
  go_wp2_with fail
  (with_reducible refine (product_nat _ _ _ ha hb).mono ?_); rintro e w1 ⟨g, rfl, hg, hbits, hq⟩
  have H := Lib.hid hbits
  clear hbits
  go_wp2_with fail
  go_quiet ((go_at_call 28; (first | (with_reducible exact quiet_same (number_high g 64 _ _ (H.out.drewN _) hlt)) | (with_reducible exact quiet_same (number_low g 128 _ _ (H.out.drewN _))))))
  go_wp2
  go_ret2
  exact ⟨rfl, hq.drewN _⟩

theorem hi_mul_or {p : Nat} (h : p ≤ 18446744073709551615) : p < 2 ^ 64 := by omega

set_option maxHeartbeats 400000 in
theorem refDiv_none (a : Int) (w : World) :
    Calls Try.prog 18 #[.int .u64 a, .int .u64 0] w fun e w' => e = .returned (.tuple #[.int .u64 0, .int .u64 0, .int .i64 1]) ∧ Q w w' := by
  go_enter Try.func18, Try.ntmps18
  go_wp2
  refine bodyPost_ret (v := .tuple #[.int .u64 0, .int .u64 0, .int .i64 1]) (by simp [results, Try.results18, go_sem]) rfl ⟨rfl, Q.refl _⟩

theorem div_len {a b : Nat} (hb : b ≠ 0) : Pol.len (Pol.div a b) ≤ Pol.len a := by
  have h := Pol.isDiv a hb
  by_cases hq : Pol.div a b = 0
  · rw [hq, Pol.len_zero]; omega
  · have h2 := Pol.mul_ne_zero_len hq hb
    have h1 : Pol.mul (Pol.div a b) b = a ^^^ Pol.mod a b := Pol.eq_xor h.1
    have h3 := Pol.len_xor_le a (Pol.mod a b)
    rw [← h1] at h3
    have h5 := h.2
    have h6 := Pol.len_pos.2 hb
    have h7 := Pol.len_pos.2 hq
    omega
theorem mod_len_le {a b : Nat} (hb : b ≠ 0) : Pol.len (Pol.mod a b) ≤ Pol.len a := by
  by_cases h : Pol.len a < Pol.len b
  · rw [Pol.mod_of_lt h]; omega
  · have := Pol.mod_len a hb; omega

set_option maxHeartbeats 1000000 in
theorem refDiv_nat (a b : Nat) (w : World) (ha : a ≤ 18446744073709551615) (hb1 : 1 ≤ b) (hb : b ≤ 18446744073709551615) :
    Calls Try.prog 18 #[.int .u64 (a : Int), .int .u64 (b : Int)] w fun e w' => e = .returned (.tuple #[.int .u64 (Pol.div a b : Nat), .int .u64 (Pol.mod a b : Nat), .int .i64 0]) ∧ Q w w' := by
  have hne : ((b : Int) == 0) = false := by rw [beq_eq_false_iff_ne]; omega
  have hb0 : b ≠ 0 := by omega
  have hla := Pol.len_le64 ha
  have h1 : Pol.div a b < 2 ^ Pol.len a := Pol.len_le.1 (div_len hb0)
  have h2 : Pol.mod a b < 2 ^ Pol.len a := Pol.len_le.1 (mod_len_le hb0)
  have h3 := div_le hb0 ha
  have h4 := mod_le (a := a) hb0 hb
  clear hb0
  go_enter Try.func18, Try.ntmps18
  go_wp2_with fail
  (with_reducible refine (list_nat _ _ ha).mono ?_); rintro e w1 ⟨A, c, rfl, hc, hs, hq1⟩
  have HS := Lib.hid hs
  have HC := Lib.hid hc
  clear hs hc
  go_wp2_with fail
  (with_reducible refine (left_nat A c (Pol.len a) a b _ _ HC.out HS.out (fun g h => h.2) (by omega) (Nat.le_refl _) hb1 hb).mono ?_); rintro e w2 ⟨gq, gl, cl, rfl, hg1, hg2, hbq, hbl, hq2⟩
  have HQ := Lib.hid hbq
  have HL := Lib.hid hbl
  clear hbq hbl
  go_wp2_with (go_at_call 28; (first | (with_reducible refine (number_bits gq _ _ _ _ HQ.out (by omega) h1 h3).mono ?_) | (with_reducible refine (number_bits gl _ _ _ _ HL.out (by omega) h2 h4).mono ?_)); rintro e w' ⟨rfl, rfl⟩)
  refine bodyPost_ret (v := .tuple #[.int .u64 (Pol.div a b : Nat), .int .u64 (Pol.mod a b : Nat), .int .i64 0]) (by simp [results, Try.results18, go_sem]) rfl ⟨rfl, hq1.step hq2⟩

set_option maxHeartbeats 400000 in
theorem refMulMod_none (a b : Int) (w : World) :
    Calls Try.prog 20 #[.int .u64 a, .int .u64 b, .int .u64 0] w fun e w' => e = .returned (.tuple #[.int .u64 0, .int .i64 1]) ∧ Q w w' := by
  go_enter Try.func20, Try.ntmps20
  go_wp2
  go_ret2
  exact ⟨rfl, Q.refl _⟩

set_option maxHeartbeats 1000000 in
theorem refMulMod_nat (a b m : Nat) (w : World) (ha : a ≤ 18446744073709551615) (hb : b ≤ 18446744073709551615) (hm1 : 1 ≤ m) (hm : m ≤ 18446744073709551615) :
    Calls Try.prog 20 #[.int .u64 (a : Int), .int .u64 (b : Int), .int .u64 (m : Int)] w fun e w' => e = .returned (.tuple #[.int .u64 (Pol.mod (Pol.mul a b) m : Nat), .int .i64 0]) ∧ Q w w' := by
  have hne : ((m : Int) == 0) = false := by rw [beq_eq_false_iff_ne]; omega
  have hm0 : m ≠ 0 := by omega
  have hlt : Pol.mul a b < 2 ^ 128 := Pol.mul_lt (m := 64) (n := 64) (a := a) (b := b) (by omega) (by omega)
  have hle : Pol.len (Pol.mul a b) ≤ 128 := Pol.len_le.2 hlt
  have h2 : Pol.mod (Pol.mul a b) m < 2 ^ 128 := Nat.lt_of_lt_of_le (Pol.mod_lt hm0 (by omega)) (by omega)
  have h4 := mod_le (a := Pol.mul a b) hm0 hm
  clear hm0 hlt
  go_enter Try.func20, Try.ntmps20
  go_wp2_with fail
  (with_reducible refine (product_nat _ _ _ ha hb).mono ?_); rintro e w1 ⟨g, rfl, hg, hbits, hq1⟩
  have HB := Lib.hid hbits
  clear hbits
  go_wp2_with fail
  (with_reducible refine (left_nat _ 128 128 (Pol.mul a b) m _ _ (by intro h; cases h) (HB.out.sees (ok := fun x => x < w1.heap.size) HB.out.lt) (fun g h => h) (by omega) hle hm1 hm).mono ?_); rintro e w2 ⟨gq, gl, cl, rfl, hg1, hg2, hbq, hbl, hq2⟩
  have HL := Lib.hid hbl
  clear hbq hbl
  go_wp2_with (go_at_call 28; (with_reducible refine (number_bits gl _ _ _ _ HL.out (by omega) h2 h4).mono ?_); rintro e w' ⟨rfl, rfl⟩)
  go_ret2
  exact ⟨rfl, hq1.step hq2⟩

set_option maxHeartbeats 1000000 in
theorem refGcd_nat (a b : Nat) (w : World) (ha : a ≤ 18446744073709551615) (hb : b ≤ 18446744073709551615) :
    Calls Try.prog 21 #[.int .u64 (a : Int), .int .u64 (b : Int)] w fun e w' => e = .returned (.int .u64 (Pol.gcd a b : Nat)) ∧ Q w w' := by
  go_enter Try.func21, Try.ntmps21
  go_wp2
  go_loopw [0, 1, 5, 6, 7] (fun g p _ _ _ wr => ∃ (u v : Nat), g = .int .u64 u ∧ p = .int .u64 v ∧ u ≤ 18446744073709551615 ∧ v ≤ 18446744073709551615 ∧ Hid (Pol.gcd u v = Pol.gcd a b) ∧ Q w wr) (fun _ p _ _ _ _ => (intOf p).toNat)
  case atStart => exact ⟨a, b, rfl, rfl, ha, hb, rfl, Q.refl _⟩
  case round =>
    obtain ⟨u, v, rfl, rfl, hu, hv, Hg, hq⟩ := hrel
    by_cases h0 : v = 0
    · have hd : ((v : Int) != 0) = false := by subst h0; rfl
      have e1 : Hid (u = Pol.gcd a b) := by show _ = _; rw [← Hg.out, h0, Pol.gcd_zero]
      clear h0
      go_wp2
      go_ret
      exact ⟨by rw [e1.out]; rfl, hq⟩
    · have hd : ((v : Int) != 0) = true := by rw [bne_iff_ne]; omega
      have hv1 : 1 ≤ v := by omega
      have e1 : Hid (Pol.gcd v (Pol.mod u v) = Pol.gcd a b) := by show _ = _; rw [← Pol.gcd_step u h0, Hg.out]
      have e2 := mod_le (a := u) h0 hv
      have e3 := Pol.lt_of_len_lt (Pol.mod_len u h0)
      clear h0
      go_wp2_with (go_at_call 18; (with_reducible refine (refDiv_nat _ _ _ hu hv1 hv).mono ?_); rintro e w' ⟨rfl, hq2⟩)
      go_roundw
      case rel => exact ⟨v, _, rfl, rfl, hv, e2, e1.out, hq.step hq2⟩
      case measure => simp only [intOf, Int.toNat_natCast]; exact e3

set_option maxHeartbeats 2000000 in
theorem refPrime_nat (p : Nat) (w : World) (hp : p < 16384) :
    Calls Try.prog 24 #[.int .u64 (p : Int)] w fun e w' => e = .returned (.bool (Pol.isRefPrime p)) ∧ Q w w' := by
  have hl : Pol.len p ≤ 14 := Pol.len_le.2 hp
  by_cases h2 : Pol.len p < 2
  · have hz : Hid (Pol.isRefPrime p = false) := Pol.isRefPrime_false.2 (fun h => by have := h.1; omega)
    go_enter Try.func24, Try.ntmps24
    go_wp2_with (go_at_call 14; (with_reducible refine (refDeg_nat _ _ (by omega)).mono ?_); rintro e w' ⟨rfl, hq⟩)
    go_ret
    exact ⟨by rw [hz.out]; rfl, hq⟩
  · go_enter Try.func24, Try.ntmps24
    go_wp2_with (go_at_call 14; (with_reducible refine (refDeg_nat _ _ (by omega)).mono ?_); rintro e w1 ⟨rfl, hq0⟩)
    go_loopw [4, 5, 6, 7] (fun q _ _ _ wr => ∃ (k : Nat), 2 ≤ k ∧ k ≤ 16384 ∧ q = .int .u64 k ∧ Hid (∀ q, 2 ≤ q → q < k → Pol.mod p q ≠ 0) ∧ Q w wr) (fun q _ _ _ _ => 16384 - (intOf q).toNat)
    case atStart => exact ⟨2, by omega, by omega, rfl, fun q h1 h2 => by omega, hq0⟩
    case round =>
      obtain ⟨k, hk2, hk, rfl, HH, hq⟩ := hrel
      have hlk := Pol.len_mono hk2
      have hlk2 := Pol.len_mono hk
      have e16 : Pol.len 16384 = 15 := Pol.len_eq (n := 14) (by omega) (by omega)
      have e2 : Pol.len 2 = 2 := Pol.len_eq (n := 1) (by omega) (by omega)
      rw [e16] at hlk2
      rw [e2] at hlk
      clear e16 e2
      by_cases hle : Pol.len k - 1 ≤ (Pol.len p - 1) / 2
      · have hk' : k < 16384 := by
          have := Pol.len_le.1 (show Pol.len k ≤ 14 by omega)
          omega
        have hk0 : k ≠ 0 := by omega
        have e4 := mod_le (a := p) hk0 (by omega)
        have HD := Lib.hid (fun w => refDiv_nat p k w (by omega) (by omega) (by omega))
        clear hk0
        by_cases hz : Pol.mod p k = 0
        · have hd : ((Pol.mod p k : Nat) == (0 : Int)) = true := by rw [hz]; rfl
          have hn : Hid (Pol.isRefPrime p = false) := Pol.isRefPrime_false.2 (fun h => h.2 k hk2 hle hz)
          clear hz
          go_wp2_with (first
            | (go_at_call 14; (with_reducible refine (refDeg_nat _ _ (by omega)).mono ?_); rintro e w2 ⟨rfl, hq2⟩)
            | (go_at_call 18; (with_reducible refine (HD.out _).mono ?_); rintro e w3 ⟨rfl, hq3⟩))
          go_ret
          exact ⟨by rw [hn.out]; rfl, (hq.step hq2).step hq3⟩
        · have hd : ((Pol.mod p k : Nat) == (0 : Int)) = false := by rw [beq_eq_false_iff_ne]; omega
          have HH' : Hid (∀ q, 2 ≤ q → q < k + 1 → Pol.mod p q ≠ 0) := fun q h1 h3 => by
            by_cases e : q = k
            · rw [e]; exact hz
            · exact HH.out q h1 (by omega)
          clear hz
          go_wp2_with (first
            | (go_at_call 14; (with_reducible refine (refDeg_nat _ _ (by omega)).mono ?_); rintro e w2 ⟨rfl, hq2⟩)
            | (go_at_call 18; (with_reducible refine (HD.out _).mono ?_); rintro e w3 ⟨rfl, hq3⟩))
          go_roundw
          case rel => exact ⟨k + 1, by omega, by omega, by go_num, HH'.out, (hq.step hq2).step hq3⟩
          case measure => simp [intOf]; omega
      · have hy : Hid (Pol.isRefPrime p = true) := Pol.isRefPrime_true.2 ⟨by omega, fun q h1 h3 => by
          apply HH.out q h1
          apply Nat.lt_of_not_le
          intro hkq
          have := Pol.len_mono hkq
          omega⟩
        go_wp2_with (go_at_call 14; (with_reducible refine (refDeg_nat _ _ (by omega)).mono ?_); rintro e w2 ⟨rfl, hq2⟩)
        go_ret
        exact ⟨by rw [hy.out]; rfl, hq.step hq2⟩
end Go.Proofs.Ytgilaklgpopjeaa
