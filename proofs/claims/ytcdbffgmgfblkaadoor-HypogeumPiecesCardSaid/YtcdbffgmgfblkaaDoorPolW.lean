/- The walks through package poly, but for the functions that take a row: each function's answers, in the plain words of PolA. -/
import Derived.Test.YtcdbffgmgfblkaaDoorPolA
import Derived.Test.YtcdbffgmgfblkaaDoorShelf
import Derived.WalkKit
import Derived.WalkSpells
import Derived.Lib.Hide
import Derived.Lib.ItoaNum
namespace Go.Proofs.YtcdbffgmgfblkaaDoor
set_option linter.unusedVariables false
set_option linter.unusedSimpArgs false
open Go.RowKit

theorem bitLen_len (n : Nat) (h : n < 2 ^ 64) : Lib.bitLen n = Pol.len n := by
  by_cases h0 : n = 0
  · subst h0; rfl
  · obtain ⟨h1, h2, h3⟩ := Lib.bitLenAux_bounds 64 n h h0
    unfold Lib.bitLen
    have := Pol.len_eq (a := n) (n := Lib.bitLenAux 64 n - 1) h2 (by rw [Nat.sub_add_cancel h1]; exact h3)
    omega

/-- A polynomial's value. -/
def P64 (x : Nat) : Value := .int .u64 (x : Int)

theorem xor_nat {a b : Nat} (ha : a ≤ 18446744073709551615) (hb : b ≤ 18446744073709551615) : bits .xor .u64 (a : Int) (b : Int) = ((a ^^^ b : Nat) : Int) := bits_xor_u64_nat a b (by omega) (by omega)
theorem or_nat {a b : Nat} (ha : a ≤ 18446744073709551615) (hb : b ≤ 18446744073709551615) : bits .or .u64 (a : Int) (b : Int) = ((a ||| b : Nat) : Int) := bits_or_u64_nat a b (by omega) (by omega)
theorem and_one {a : Nat} (ha : a ≤ 18446744073709551615) : (bits .and .u64 (a : Int) 1 == 1) = (a % 2 == 1) := by
  have h := bits_and_u64_nat a 1 (by omega) (by omega)
  rw [show ((1 : Nat) : Int) = 1 from rfl] at h
  rw [h, Nat.and_one_is_mod]
  have := Nat.mod_two_eq_zero_or_one a
  rcases this with h | h <;> rw [h] <;> rfl
theorem shl_nat (a k : Nat) : IntKind.u64.wrap ((a : Int) * 2 ^ k) = ((Pol.lo (a * 2 ^ k) : Nat) : Int) := by
  rw [IntKind.wrap_u64]; unfold Pol.lo
  rw [Int.natCast_emod, Int.natCast_mul, Int.natCast_pow]; rfl
theorem shr_nat (a k : Nat) : ((a : Int) / 2 ^ k) = ((a / 2 ^ k : Nat) : Int) := by
  rw [Int.natCast_ediv, Int.natCast_pow]; rfl
theorem xor_le {a b : Nat} (ha : a ≤ 18446744073709551615) (hb : b ≤ 18446744073709551615) : a ^^^ b ≤ 18446744073709551615 := by
  have := Pol.xor_lt (n := 64) (x := a) (y := b) (by omega) (by omega)
  omega

set_option maxHeartbeats 400000 in
theorem deg_any (x : Int) (w : World) (h0 : 0 ≤ x) (h1 : x ≤ 18446744073709551615) :
    Calls Tryd.prog 54 #[.int .u64 x] w fun e w' => e = .returned (.int .i64 ((Pol.len x.toNat : Int) - 1)) ∧ w = w' := by
  have hb := Pol.len_le64 (a := x.toNat) (by omega)
  have he := bitLen_len x.toNat (by omega)
  have he' := Lib.hid he
  clear he
  have hbl : Lib.bitLen x.toNat ≤ 64 := by rw [he'.out]; exact hb
  go_enter Tryd.func54, Tryd.ntmps54
  go_wp2_with (go_at_call 61; refine (Tryd.bits_Len64 _ _ h0 h1).mono ?_; rintro e w' ⟨rfl, rfl⟩)
  go_ret
  exact ⟨by rw [he'.out]; rfl, rfl⟩

theorem deg_nat (x : Nat) (w : World) (h : x ≤ 18446744073709551615) :
    Calls Tryd.prog 54 #[.int .u64 (x : Int)] w fun e w' => e = .returned (.int .i64 ((Pol.len x : Int) - 1)) ∧ w = w' :=
  (deg_any x w (by omega) (by omega)).mono fun _ _ h => by rwa [Int.toNat_natCast] at h

set_option maxHeartbeats 400000 in
theorem mul_any (a b : Int) (w : World) (ha : 0 ≤ a) (ha' : a ≤ 18446744073709551615) (hb : 0 ≤ b) (hb' : b ≤ 18446744073709551615) :
    Calls Tryd.prog 65 #[.int .u64 a, .int .u64 b] w fun e w' => e = .returned (.tuple #[.int .u64 (Pol.hi (Pol.mul a.toNat b.toNat) : Nat), .int .u64 (Pol.lo (Pol.mul a.toNat b.toNat) : Nat)]) ∧ w = w' := by
  obtain ⟨A, rfl⟩ := Int.eq_ofNat_of_zero_le ha
  obtain ⟨B, rfl⟩ := Int.eq_ofNat_of_zero_le hb
  rw [Int.toNat_natCast, Int.toNat_natCast]
  go_enter Tryd.func65, Tryd.ntmps65
  go_wp2
  go_loop [1, 6, 7, 8] (fun b' h l i => ∃ (k x y z : Nat), k ≤ 64 ∧ i = .int .i64 k ∧ b' = .int .u64 x ∧ h = .int .u64 y ∧ l = .int .u64 z ∧ x ≤ 18446744073709551615 ∧ y ≤ 18446744073709551615 ∧ z ≤ 18446744073709551615 ∧ Hid (x = B / 2 ^ k ∧ y = Pol.hi (Pol.mul A (B % 2 ^ k)) ∧ z = Pol.lo (Pol.mul A (B % 2 ^ k)))) (fun b' _ _ _ => (intOf b').toNat)
  case atStart =>
    refine ⟨0, B, 0, 0, by omega, rfl, rfl, rfl, rfl, by omega, by omega, by omega, by simp, ?_, ?_⟩
    · rw [Nat.pow_zero, Nat.mod_one, Pol.mul_zero]; rfl
    · rw [Nat.pow_zero, Nat.mod_one, Pol.mul_zero]; rfl
  case round =>
    obtain ⟨k, x, y, z, hk, rfl, rfl, rfl, rfl, hx, hy, hz, H⟩ := hrel
    by_cases h0 : x = 0
    · have hd : ((x : Int) != 0) = false := by subst h0; rfl
      have H0 := Lib.hid h0
      clear h0
      go_wp2
      go_ret2
      obtain ⟨h1, h2, h3⟩ := H.out
      have hlt : B < 2 ^ k := by
        rcases Nat.div_eq_zero_iff.1 (h1.symm.trans H0.out) with h | h
        · have := Nat.two_pow_pos k; omega
        · exact h
      rw [Nat.mod_eq_of_lt hlt] at h2 h3
      exact ⟨by rw [h2, h3]; rfl, rfl⟩
    · have hk' : k < 64 := by
        apply Nat.lt_of_not_le
        intro hle
        apply h0
        rw [H.out.1]
        exact Nat.div_eq_of_lt (Nat.lt_of_lt_of_le (m := 2 ^ 64) (by omega) (Nat.pow_le_pow_right (by omega) hle))
      have hd : ((x : Int) != 0) = true := by rw [bne_iff_ne]; omega
      have hmeas : x / 2 < x := by omega
      have hH : ∀ y', Hid (y' = B / 2 ^ k) → y' / 2 = B / 2 ^ (k + 1) := fun y' h => by rw [h.out, Nat.div_div_eq_div_mul, Nat.pow_succ]
      have hH := Lib.hid hH
      have hx2 := and_one hx
      by_cases hbit : x % 2 = 1
      · have hx3 : (bits .and .u64 (x : Int) 1 == 1) = true := by rw [hx2]; simpa using hbit
        clear hx2
        have hs1 := Lib.hid (shr_nat A (64 - k))
        have hs2 := Lib.hid (shl_nat A k)
        have hl1 : A / 2 ^ (64 - k) ≤ 18446744073709551615 := Nat.le_trans (Nat.div_le_self _ _) (by omega)
        have hl2 := Pol.lo_lt (A * 2 ^ k)
        go_wp2
        go_round
        case rel =>
          refine ⟨k + 1, x / 2, y ^^^ A / 2 ^ (64 - k), z ^^^ Pol.lo (A * 2 ^ k), by omega, by go_num, by go_num, ?_, ?_, by omega, xor_le hy hl1, xor_le hz hl2, hH.out x H.out.1, ?_, ?_⟩
          · rw [hs1.out, xor_nat hy hl1]
          · rw [hs2.out, xor_nat hz hl2]
          · rw [Pol.mul_round_hi _ _ _ hk, ← H.out.1, if_pos hbit, ← H.out.2.1]
          · rw [Pol.mul_round_lo, ← H.out.1, if_pos hbit, ← H.out.2.2]
        case measure => simp [intOf]; omega
      · have hx3 : (bits .and .u64 (x : Int) 1 == 1) = false := by rw [hx2]; simpa using hbit
        clear hx2
        go_wp2
        go_round
        case rel =>
          refine ⟨k + 1, x / 2, y, z, by omega, by go_num, by go_num, rfl, rfl, by omega, hy, hz, hH.out x H.out.1, ?_, ?_⟩
          · rw [Pol.mul_round_hi _ _ _ hk, ← H.out.1, if_neg hbit, ← H.out.2.1]
          · rw [Pol.mul_round_lo, ← H.out.1, if_neg hbit, ← H.out.2.2]
        case measure => simp [intOf]; omega

theorem shl_small {a k : Nat} (h : a * 2 ^ k < 2 ^ 64) : IntKind.u64.wrap ((a : Int) * 2 ^ k) = ((a * 2 ^ k : Nat) : Int) := by
  rw [shl_nat, Pol.lo_of_lt (by omega)]
theorem shl_one {k : Nat} (h : 2 ^ k < 2 ^ 64) : IntKind.u64.wrap (2 ^ k : Int) = ((2 ^ k : Nat) : Int) := by
  have := shl_small (a := 1) (k := k) (by omega)
  simpa using this

set_option maxHeartbeats 400000 in
theorem div_none (a : Int) (w : World) :
    Calls Tryd.prog 62 #[.int .u64 a, .int .u64 0] w fun e w' => e = .returned (.tuple #[.int .u64 0, .int .u64 0, .int .i64 1]) ∧ w = w' := by
  go_enter Tryd.func62, Tryd.ntmps62
  go_wp2
  refine bodyPost_ret (v := .tuple #[.int .u64 0, .int .u64 0, .int .i64 1]) (by simp [results, Tryd.results62, go_sem]) rfl ⟨rfl, rfl⟩

set_option maxHeartbeats 1000000 in
theorem div_any (a b : Int) (w : World) (ha : 0 ≤ a) (ha' : a ≤ 18446744073709551615) (hb : 1 ≤ b) (hb' : b ≤ 18446744073709551615) :
    Calls Tryd.prog 62 #[.int .u64 a, .int .u64 b] w fun e w' => e = .returned (.tuple #[.int .u64 (Pol.div a.toNat b.toNat : Nat), .int .u64 (Pol.mod a.toNat b.toNat : Nat), .int .i64 0]) ∧ w = w' := by
  obtain ⟨A, rfl⟩ := Int.eq_ofNat_of_zero_le ha
  obtain ⟨B, rfl⟩ := Int.eq_ofNat_of_zero_le (show (0 : Int) ≤ b by omega)
  rw [Int.toNat_natCast, Int.toNat_natCast]
  have hne : ((B : Int) == 0) = false := by rw [beq_eq_false_iff_ne]; omega
  have hB0 : B ≠ 0 := by omega
  have hB1 := Lib.hid hB0
  clear hB0
  have HA := Lib.hid (deg_nat A w (by omega))
  have HB := Lib.hid (deg_nat B w (by omega))
  have lB := Pol.len_le64 (a := B) (by omega)
  have lA := Pol.len_le64 (a := A) (by omega)
  go_enter Tryd.func62, Tryd.ntmps62
  go_wp2_with (first
    | (refine HA.out.mono ?_; rintro e w' ⟨rfl, rfl⟩)
    | (refine HB.out.mono ?_; rintro e w' ⟨rfl, rfl⟩))
  go_loop [0, 7, 8] (fun a' q' d' => ∃ (x q : Nat) (e : Int), a' = .int .u64 x ∧ q' = .int .u64 q ∧ d' = .int .i64 e ∧ x ≤ 18446744073709551615 ∧ q ≤ 18446744073709551615 ∧ -64 ≤ e ∧ e ≤ 63 ∧ Hid (e = (Pol.len x : Int) - 1 - ((Pol.len B : Int) - 1) ∧ Pol.DivInv A B q x)) (fun a' _ _ => (intOf a').toNat)
  case atStart => exact ⟨A, 0, _, rfl, rfl, rfl, by omega, by omega, by omega, by have := Pol.len_pos.2 hB1.out; omega, rfl, Pol.divInv_begin A B⟩
  case round =>
    obtain ⟨x, q, e, rfl, rfl, rfl, hx, hq, he1, he2, H⟩ := hrel
    clear HA HB
    have hpB := Pol.len_pos.2 hB1.out
    by_cases hneg : e < 0
    · go_wp2
      obtain ⟨h1, h2⟩ := H.out
      obtain ⟨h3, h4⟩ := Pol.divInv_end h2 (by omega)
      refine bodyPost_ret (v := .tuple #[.int .u64 (q : Nat), .int .u64 (x : Nat), .int .i64 0]) (by simp [results, Tryd.results62, go_sem]) rfl ⟨by rw [h3, h4], rfl⟩
    · obtain ⟨d, rfl⟩ := Int.eq_ofNat_of_zero_le (show (0 : Int) ≤ e by omega)
      obtain ⟨h1, h2⟩ := H.out
      have hle : Pol.len B ≤ Pol.len x := by omega
      have hd : d = Pol.len x - Pol.len B := by omega
      have hx64 : x < 2 ^ 64 := by omega
      have h3 := Pol.divInv_round hB1.out hle h2
      have h4 := Pol.pow_shift_lt hx64 hB1.out hle
      have h5 := Pol.pow_lt hx64 hB1.out hle
      have h6 := Pol.div_round_len hB1.out hle
      rw [← hd] at h3 h4 h5 h6
      have hlt := Pol.lt_of_len_lt h6
      have s1 := Lib.hid (shl_small h4)
      have s2 := Lib.hid (shl_one h5)
      have x1 := Lib.hid (xor_nat hx (show B * 2 ^ d ≤ 18446744073709551615 by omega))
      have o1 := Lib.hid (or_nat hq (show 2 ^ d ≤ 18446744073709551615 by omega))
      have hx' : x ^^^ B * 2 ^ d ≤ 18446744073709551615 := xor_le hx (by omega)
      have hq' : q ||| 2 ^ d ≤ 18446744073709551615 := by
        have := Nat.or_lt_two_pow (x := q) (y := 2 ^ d) (n := 64) (by omega) h5
        omega
      have H3 := Lib.hid h3
      have lx := Pol.len_le64 hx'
      generalize hX : x ^^^ B * 2 ^ d = X at *
      generalize hQ : q ||| 2 ^ d = Q at *
      have HX := Lib.hid hX
      have HQ := Lib.hid hQ
      have HA := Lib.hid (deg_nat X w hx')
      have HB := Lib.hid (deg_nat B w (by omega))
      clear h1 h2 h3 h4 h5 h6 hX hQ H
      have hd' := Lib.hid hd
      clear hd
      have e1 : bits .xor .u64 (x : Int) (IntKind.u64.wrap ((B : Int) * 2 ^ d)) = (X : Int) := by rw [s1.out]; exact x1.out
      have e2 : bits .or .u64 (q : Int) (IntKind.u64.wrap (2 ^ d)) = (Q : Int) := by rw [s2.out]; exact o1.out
      go_wp2_with (first
        | (refine HA.out.mono ?_; rintro e w' ⟨rfl, rfl⟩)
        | (refine HB.out.mono ?_; rintro e w' ⟨rfl, rfl⟩))
      go_round
      case rel => exact ⟨X, Q, _, rfl, rfl, rfl, hx', hq', by omega, by omega, rfl, H3.out⟩
      case measure => simp [intOf]; omega

theorem mul_nat (a b : Nat) (w : World) (ha : a ≤ 18446744073709551615) (hb : b ≤ 18446744073709551615) :
    Calls Tryd.prog 65 #[.int .u64 (a : Int), .int .u64 (b : Int)] w fun e w' => e = .returned (.tuple #[.int .u64 (Pol.hi (Pol.mul a b) : Nat), .int .u64 (Pol.lo (Pol.mul a b) : Nat)]) ∧ w = w' :=
  (mul_any a b w (by omega) (by omega) (by omega) (by omega)).mono fun _ _ h => by rwa [Int.toNat_natCast, Int.toNat_natCast] at h
theorem div_nat (a b : Nat) (w : World) (ha : a ≤ 18446744073709551615) (hb : 1 ≤ b) (hb' : b ≤ 18446744073709551615) :
    Calls Tryd.prog 62 #[.int .u64 (a : Int), .int .u64 (b : Int)] w fun e w' => e = .returned (.tuple #[.int .u64 (Pol.div a b : Nat), .int .u64 (Pol.mod a b : Nat), .int .i64 0]) ∧ w = w' :=
  (div_any a b w (by omega) (by omega) (by omega) (by omega)).mono fun _ _ h => by rwa [Int.toNat_natCast, Int.toNat_natCast] at h

set_option maxHeartbeats 400000 in
theorem mulMod_none (a b : Int) (w : World) :
    Calls Tryd.prog 63 #[.int .u64 a, .int .u64 b, .int .u64 0] w fun e w' => e = .returned (.tuple #[.int .u64 0, .int .i64 1]) ∧ w = w' := by
  go_enter Tryd.func63, Tryd.ntmps63
  go_wp2
  go_ret2
  exact ⟨rfl, rfl⟩

theorem mod_le {a b : Nat} (hb : b ≠ 0) (h : b ≤ 18446744073709551615) : Pol.mod a b ≤ 18446744073709551615 := by
  have := Pol.mod_lt (a := a) hb (by omega)
  omega
theorem div_le {a b : Nat} (hb : b ≠ 0) (h : a ≤ 18446744073709551615) : Pol.div a b ≤ 18446744073709551615 := by
  have := Pol.div_lt (a := a) hb (by omega)
  omega

set_option maxHeartbeats 1000000 in
theorem mulMod_nat (a b m : Nat) (w : World) (ha : a ≤ 18446744073709551615) (hb : b ≤ 18446744073709551615) (hm : 1 ≤ m) (hm' : m ≤ 18446744073709551615) :
    Calls Tryd.prog 63 #[.int .u64 (a : Int), .int .u64 (b : Int), .int .u64 (m : Int)] w fun e w' => e = .returned (.tuple #[.int .u64 (Pol.mod (Pol.mul a b) m : Nat), .int .i64 0]) ∧ w = w' := by
  have hne : ((m : Int) == 0) = false := by rw [beq_eq_false_iff_ne]; omega
  have hm1 := Lib.hid (show m ≠ 0 by omega)
  have h1 := Pol.hi_mul_lt ha hb
  have h2 := Pol.lo_lt (Pol.mul a b)
  have HM := Lib.hid (mul_nat a b w ha hb)
  go_enter Tryd.func63, Tryd.ntmps63
  go_wp2_with (refine HM.out.mono ?_; rintro e w' ⟨rfl, rfl⟩)
  go_loop [8, 9] (fun h' l' => ∃ (x y P : Nat), h' = .int .u64 x ∧ l' = .int .u64 y ∧ x ≤ 18446744073709551615 ∧ y ≤ 18446744073709551615 ∧ Hid (x = Pol.hi P ∧ y = Pol.lo P ∧ Pol.mod P m = Pol.mod (Pol.mul a b) m)) (fun h' _ => (intOf h').toNat)
  case atStart => exact ⟨_, _, Pol.mul a b, rfl, rfl, h1, h2, rfl, rfl, rfl⟩
  case round =>
    obtain ⟨x, y, P, rfl, rfl, hx, hy, H⟩ := hrel
    clear HM
    by_cases h0 : x = 0
    · have hd : ((x : Int) != 0) = false := by subst h0; rfl
      have hyP : y = P := by
        obtain ⟨e1, e2, _⟩ := H.out
        unfold Pol.hi at e1; unfold Pol.lo at e2; omega
      have h3 : Pol.mod y m = Pol.mod (Pol.mul a b) m := by rw [hyP]; exact H.out.2.2
      have H3 := Lib.hid h3
      have HD := Lib.hid (div_nat y m w hy hm hm')
      clear hyP h0 h3
      go_wp2_with (refine HD.out.mono ?_; rintro e w' ⟨rfl, rfl⟩)
      go_ret2
      exact ⟨by rw [← H3.out]; rfl, rfl⟩
    · have hd : ((x : Int) != 0) = true := by rw [bne_iff_ne]; omega
      obtain ⟨e1, e2, e3⟩ := H.out
      obtain ⟨r1, r2⟩ := Pol.mulMod_round (P := P) (m := m) hm1.out (by rw [← e1]; exact h0) hm'
      have l1 := Pol.len_pos.2 h0
      have l2 := Pol.len_le64 hx
      have l3 := Pol.len_le64 hm'
      have l4 := Pol.len_pos.2 hm1.out
      rw [← e1] at r1 r2
      obtain ⟨d, hd'⟩ : ∃ d, d = 64 + Pol.len x - Pol.len m := ⟨_, rfl⟩
      rw [← hd'] at r1 r2
      have hdi : (64 : Int) + ((Pol.len x : Int) - 1) - ((Pol.len m : Int) - 1) = (d : Int) := by omega
      have s1 := Lib.hid (shl_nat m d)
      have s0 := Pol.lo_lt (m * 2 ^ d)
      have x1 := Lib.hid (xor_nat hy s0)
      have hy' := xor_le hy s0
      rw [Pol.hi_xor, ← e1] at r1
      have HA := Lib.hid (deg_nat x w hx)
      have HB := Lib.hid (deg_nat m w hm')
      have c2 : Hid (y ^^^ Pol.lo (m * 2 ^ d) = Pol.lo (P ^^^ m * 2 ^ d)) := by show _ = _; rw [e2, Pol.lo_xor]
      have c3 : Hid (Pol.mod (P ^^^ m * 2 ^ d) m = Pol.mod (Pol.mul a b) m) := by show _ = _; rw [r2, e3]
      have hd1 : 1 ≤ d := by omega
      have hd2 : d ≤ 128 := by omega
      by_cases hlt : d < 64
      · have g1 := Lib.hid (shr_nat m (64 - d))
        have g2 : m / 2 ^ (64 - d) ≤ 18446744073709551615 := Nat.le_trans (Nat.div_le_self _ _) hm'
        have g3 := Lib.hid (xor_nat hx g2)
        have g4 := xor_le hx g2
        rw [Pol.hi_shift m d (by omega)] at r1
        have c1 : Hid (x ^^^ m / 2 ^ (64 - d) = Pol.hi (P ^^^ m * 2 ^ d)) := by show _ = _; rw [Pol.hi_xor, ← e1, Pol.hi_shift m d (by omega)]
        have Hdi := Lib.hid hdi
        have k1 : bits .xor .u64 (y : Int) (IntKind.u64.wrap ((m : Int) * 2 ^ d)) = ((y ^^^ Pol.lo (m * 2 ^ d) : Nat) : Int) := by rw [s1.out]; exact x1.out
        have k2 : bits .xor .u64 (x : Int) ((m : Int) / 2 ^ (64 - d)) = ((x ^^^ m / 2 ^ (64 - d) : Nat) : Int) := by rw [g1.out]; exact g3.out
        clear e1 e2 e3 r2 hd' h0
        go_wp2_with (first
          | (refine HA.out.mono ?_; rintro e w' ⟨rfl, rfl⟩)
          | (refine HB.out.mono ?_; rintro e w' ⟨rfl, rfl⟩))
        go_round
        case rel => exact ⟨_, _, P ^^^ m * 2 ^ d, rfl, rfl, g4, hy', c1.out, c2.out, c3.out⟩
        case measure => simp only [intOf, Int.toNat_natCast]; exact r1
      · have g1 : (m * 2 ^ (d - 64)) < 2 ^ 64 := by
          rw [← Pol.len_le, Pol.len_shift hm1.out]; omega
        have g2 := Lib.hid (shl_small g1)
        have g3 := Lib.hid (xor_nat hx (show m * 2 ^ (d - 64) ≤ 18446744073709551615 by omega))
        have g4 := xor_le hx (show m * 2 ^ (d - 64) ≤ 18446744073709551615 by omega)
        rw [Pol.hi_shift' m d (by omega)] at r1
        have c1 : Hid (x ^^^ m * 2 ^ (d - 64) = Pol.hi (P ^^^ m * 2 ^ d)) := by show _ = _; rw [Pol.hi_xor, ← e1, Pol.hi_shift' m d (by omega)]
        have k1 : bits .xor .u64 (y : Int) (IntKind.u64.wrap ((m : Int) * 2 ^ min d 64)) = ((y ^^^ Pol.lo (m * 2 ^ d) : Nat) : Int) := by rw [shl_nat, Pol.lo_shift_min]; exact x1.out
        have k2 : bits .xor .u64 (x : Int) (IntKind.u64.wrap ((m : Int) * 2 ^ (d - 64))) = ((x ^^^ m * 2 ^ (d - 64) : Nat) : Int) := by rw [g2.out]; exact g3.out
        clear e1 e2 e3 r2 hd' h0 g1
        go_wp2_with (first
          | (refine HA.out.mono ?_; rintro e w' ⟨rfl, rfl⟩)
          | (refine HB.out.mono ?_; rintro e w' ⟨rfl, rfl⟩))
        go_round
        case rel => exact ⟨_, _, P ^^^ m * 2 ^ d, rfl, rfl, g4, hy', c1.out, c2.out, c3.out⟩
        case measure => simp only [intOf, Int.toNat_natCast]; exact r1
#print axioms mul_any
end Go.Proofs.YtcdbffgmgfblkaaDoor
