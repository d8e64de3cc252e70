/- The walks through the document's DocOf. -/
import Derived.Test.YtddjccjbbajgaaaRollW
import Derived.Test.YtddjccjbbajgaaaPolFa
import Derived.Test.YtddjccjbbajgaaaByt
namespace Go.Proofs.Ytddjccjbbajgaaa
set_option linter.unusedVariables false
set_option linter.unusedSimpArgs false
open Go.RowKit

set_option maxHeartbeats 400000 in
theorem right_yes (m : Nat) (w : World) (hm : m ≤ 18446744073709551615) (hl : 9 ≤ Pol.len m) :
    Calls Try.prog 39 #[.int .u64 (m : Int)] w fun e w' => e = .returned (.bool true) ∧ Q w w' := by
  have hl64 := Pol.len_le64 hm
  have hd : decide ((Pol.len m : Int) - 1 ≤ 63) = true := decide_eq_true (by omega)
  go_enter Try.func39, Try.ntmps39
  go_wp2_with (go_at_call 25; (with_reducible refine (refDeg_nat _ _ hm).mono ?_); rintro e w' ⟨rfl, hqc⟩)
  go_ret
  exact ⟨rfl, (by repeat (first | exact Q.refl _ | refine Q.step ?_ (by assumption)) : Q w _)⟩
set_option maxHeartbeats 400000 in
theorem right_no (m : Nat) (w : World) (hm : m ≤ 18446744073709551615) (hl : Pol.len m < 9) :
    Calls Try.prog 39 #[.int .u64 (m : Int)] w fun e w' => e = .returned (.bool false) ∧ Q w w' := by
  go_enter Try.func39, Try.ntmps39
  go_wp2_with (go_at_call 25; (with_reducible refine (refDeg_nat _ _ hm).mono ?_); rintro e w' ⟨rfl, hqc⟩)
  go_ret
  exact ⟨rfl, (by repeat (first | exact Q.refl _ | refine Q.step ?_ (by assumption)) : Q w _)⟩

set_option maxHeartbeats 400000 in
theorem docOf_bad (m : Nat) (A : Option Addr) (n c : Nat) (w : World) (hm : m ≤ 18446744073709551615) (hl : Pol.len m < 9) :
    Calls Try.prog 34 #[.int .u64 (m : Int), .slice A n c] w fun e w' => e = .returned (.tuple #[.int .u64 0, .int .i64 1]) ∧ Q w w' := by
  go_enter Try.func34, Try.ntmps34
  go_wp2_with (go_at_call 39; (with_reducible refine (right_no _ _ hm hl).mono ?_); rintro e w' ⟨rfl, hqc⟩)
  go_ret2
  exact ⟨rfl, (by repeat (first | exact Q.refl _ | refine Q.step ?_ (by assumption)) : Q w _)⟩

set_option maxHeartbeats 4000000 in
set_option maxRecDepth 100000 in
theorem docOf_ok (m : Nat) (A : Option Addr) (c : Nat) (ok : Nat → Prop) (l : List Nat) (w : World) (hm : m ≤ 18446744073709551615) (hl : 9 ≤ Pol.len m) (hs : SeesP w ok A (l.map B8)) (hok : ∀ g, ok g → g < w.heap.size) (hll : l.length ≤ 9223372036854775806) (hx : ∀ x ∈ l, x ≤ 255) :
    Calls Try.prog 34 #[.int .u64 (m : Int), .slice A l.length c] w fun e w' => e = .returned (.tuple #[.int .u64 (Pol.roll m 0 l : Nat), .int .i64 0]) ∧ Q w w' := by
  have HS := Lib.hid (hs.more (ok' := (· < w.heap.size)) hok)
  have HX := Lib.hid hx
  have hl64 := Pol.len_le64 hm
  have hm0 := Lib.hid (Pol.len_pos.1 (show 0 < Pol.len m by omega))
  obtain ⟨d, hd⟩ : ∃ d, d = Pol.len m - 2 := ⟨_, rfl⟩
  have hdi : (Pol.len m : Int) - 1 = (d : Int) + 1 := by omega
  have HDI := Lib.hid hdi
  have HD := Lib.hid hd
  have hd62 : d ≤ 62 := by omega
  clear hs hx hok hdi hd
  go_enter Try.func34, Try.ntmps34
  go_wp2_with (first
    | (go_at_call 39; (with_reducible refine (right_yes _ _ hm hl).mono ?_); rintro e w1 ⟨rfl, hq1⟩)
    | (go_at_call 25; (with_reducible refine (refDeg_nat _ _ hm).mono ?_); rintro e w2 ⟨rfl, hq2⟩; rw [HDI.out]))
  have hq0 : Q w w2 := hq1.step hq2
  clear hq1 hq2
  go_loopw [6, 8, 9, 10] (fun s i _ _ wr => ∃ (k y : Nat), k ≤ l.length ∧ i = .int .i64 k ∧ s = .int .u64 y ∧ Pol.len y < Pol.len m ∧ Hid (y = Pol.roll m 0 (l.take k)) ∧ Q w wr) (fun _ i _ _ _ => l.length - (intOf i).toNat)
  case atStart => exact ⟨0, 0, by omega, rfl, rfl, by rw [Pol.len_zero]; omega, rfl, hq0⟩
  case round =>
    obtain ⟨k, y, hk, rfl, rfl, hyl, HH, hq⟩ := hrel
    by_cases hlt : k < l.length
    · obtain ⟨b, o, rfl, hb, hc⟩ := (HS.out.below hq).at_ (k := k) (u := B8 l[k]) (by simp [hlt])
      have hlk := HX.out l[k] (List.getElem_mem hlt)
      have hr : Hid (Pol.nxt m y l[k] = Pol.roll m 0 (l.take (k + 1))) := by
        show _ = _
        rw [List.take_succ_eq_append_getElem hlt, Pol.roll_snoc, HH.out]
      have hnl := Pol.nxt_len m y l[k] hm0.out
      generalize l[k] = x at *
      unfold B8 at hc
      go_wp2
      go_loop [6, 9, 10] (fun s j _ => ∃ (i z : Nat), i ≤ 8 ∧ j = .int .i64 (7 - (i : Int)) ∧ s = .int .u64 z ∧ Pol.len z < Pol.len m ∧ Hid (z = Pol.half m y x i)) (fun _ j _ => (intOf j + 1).toNat)
      case atStart => exact ⟨0, y, by omega, rfl, rfl, hyl, (Pol.half_zero hyl hlk).symm⟩
      case round =>
        obtain ⟨i, z, hi, rfl, rfl, hzl, HZ⟩ := hrel
        by_cases hi8 : i < 8
        · have hz63 : z < 2 ^ 63 := Pol.len_le.1 (by omega)
          obtain ⟨U, hU⟩ : ∃ U, U = z / 2 ^ d := ⟨_, rfl⟩
          obtain ⟨X, hX⟩ : ∃ X, X = x / 2 ^ (7 - i) := ⟨_, rfl⟩
          have e1 : (z : Int) / 2 ^ d = (U : Int) := by rw [hU]; exact shr_nat z d
          have e2 : (x : Int) / 2 ^ (7 - i) = (X : Int) := by rw [hX]; exact shr_nat x (7 - i)
          have hcle : X % 2 ≤ 1 := by omega
          have hstep := Pol.bit_step (m := m) (s := z) (c := X % 2) (by omega) hzl hcle
          rw [← HD.out, ← hU] at hstep
          have hhalf := Pol.half_step (m := m) (s := y) (x := x) (j := i) hi8
          rw [← HZ.out, ← hX, hstep] at hhalf
          have hhl : Pol.len (Pol.half m y x (i + 1)) < Pol.len m := by
            have := Pol.mod_len (z * 2 ^^^ X % 2) hm0.out
            rw [hhalf, ← hstep]; exact this
          have hji : ((7 : Int) - (i : Int)).toNat = 7 - i := by omega
          obtain ⟨V, hV⟩ : ∃ V, V = z * 2 ^^^ X % 2 := ⟨_, rfl⟩
          have hV64 : V ≤ 18446744073709551615 := by rw [hV]; exact xor_le (by omega) (by omega)
          have x1 : bits .xor .u64 ((z : Int) * 2) ((X : Int) % 2) = (V : Int) := by
            have := xor_nat (a := z * 2) (b := X % 2) (by omega) (by omega)
            rw [hV]; exact this
          have hz64 : z ≤ 9223372036854775807 := by omega
          have hX255 : X ≤ 255 := by rw [hX]; exact Nat.le_trans (Nat.div_le_self _ _) hlk
          rw [← hV] at hhalf
          have HU := Lib.hid hU
          have HX' := Lib.hid hX
          have HV := Lib.hid hV
          clear hz63 hstep hU hX hV
          by_cases hub : U % 2 = 1
          · have ht : ((U : Int) % 2 == 1) = true := by rw [beq_iff_eq]; omega
            rw [if_pos hub] at hhalf
            have hw : V ^^^ m ≤ 18446744073709551615 := xor_le hV64 hm
            have x2 := xor_nat hV64 hm
            have HH2 := Lib.hid hhalf
            clear hhalf hub
            go_wp2
            go_round
            case rel => exact ⟨i + 1, _, by omega, by simp; omega, rfl, by rw [← HH2.out]; exact hhl, HH2.out.symm⟩
            case measure => simp [intOf]; omega
          · have ht : ((U : Int) % 2 == 1) = false := by rw [beq_eq_false_iff_ne]; omega
            rw [if_neg hub] at hhalf
            have HH2 := Lib.hid hhalf
            clear hhalf hub
            go_wp2
            go_round
            case rel => exact ⟨i + 1, V, by omega, by simp; omega, rfl, by rw [← HH2.out]; exact hhl, HH2.out.symm⟩
            case measure => simp [intOf]; omega
        · have hie : i = 8 := by omega
          have hz : Hid (z = Pol.roll m 0 (l.take (k + 1))) := by show _ = _; rw [HZ.out, hie, Pol.half_all, hr.out]
          clear hie
          go_wp2
          go_roundw
          case rel => exact ⟨k + 1, z, by omega, by go_num, rfl, hzl, hz.out, hq⟩
          case measure => simp [intOf]; omega
    · have hke : Hid (y = Pol.roll m 0 l) := by show _ = _; rw [HH.out, List.take_of_length_le (by omega)]
      go_wp2
      go_ret2
      exact ⟨by rw [hke.out]; rfl, hq⟩
end Go.Proofs.Ytddjccjbbajgaaa
