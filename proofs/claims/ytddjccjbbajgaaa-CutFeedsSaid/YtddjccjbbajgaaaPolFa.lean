/- The walks through the document's answers of chapter 3: lists of coefficients, products, rests. -/
import Derived.Test.YtddjccjbbajgaaaPolW
import Derived.Test.YtddjccjbbajgaaaMem
namespace Go.Proofs.Ytddjccjbbajgaaa
set_option linter.unusedVariables false
set_option linter.unusedSimpArgs false
open Go.RowKit

/-- The lowest n coefficients, as a list has them. -/
def bitsL (p n : Nat) : List Value := (List.range n).map fun i => .bool (p.testBit i)
theorem bitsL_get {p n i : Nat} (h : i < n) : (bitsL p n)[i]? = some (.bool (p.testBit i)) := by simp [bitsL, h]
theorem bitsL_len (p n : Nat) : (bitsL p n).length = n := by simp [bitsL]
theorem bitsL_snoc (p n : Nat) : bitsL p (n + 1) = bitsL p n ++ [.bool (p.testBit n)] := by simp [bitsL, List.range_succ]

theorem infoBool : (Try.prog.info? 4).map (fun i => (i.zero, i.size, i.bytes)) = some (some (.bool false), 1, 1) := by kernel_rfl

theorem testBit_div (p k : Nat) : (((p / 2 ^ k : Nat) : Int) % 2 == 1) = p.testBit k := by
  rw [Nat.testBit_eq_decide_div_mod_eq]
  rcases Nat.mod_two_eq_zero_or_one (p / 2 ^ k) with h | h
  · have : ((p / 2 ^ k : Nat) : Int) % 2 = 0 := by
      show ((p / 2 ^ k % 2 : Nat) : Int) = 0
      rw [h]; rfl
    rw [this, h]; rfl
  · have : ((p / 2 ^ k : Nat) : Int) % 2 = 1 := by
      show ((p / 2 ^ k % 2 : Nat) : Int) = 1
      rw [h]; rfl
    rw [this, h]; rfl

set_option maxHeartbeats 1000000 in
theorem list_nat (p : Nat) (w : World) (hp : p ≤ 18446744073709551615) :
    Calls Try.prog 32 #[.int .u64 (p : Int)] w fun e w' => ∃ A c, e = .returned (.slice A (Pol.len p) c) ∧ (A = none → c = 0) ∧ SeesP w' (fun b => w.heap.size ≤ b ∧ b < w'.heap.size) A (bitsL p (Pol.len p)) ∧ Q w w' := by
  obtain ⟨i0, hi, hz0, hz1, hz2⟩ := info_parts infoBool
  have hl := Pol.len_le64 hp
  have hlt := Lib.hid (Pol.lt_len p)
  go_enter Try.func32, Try.ntmps32
  go_wp2
  go_loopw [0, 3] (fun x v wr => ∃ (k y : Nat), k ≤ Pol.len p ∧ x = .int .u64 y ∧ y ≤ 18446744073709551615 ∧ Hid (y = p / 2 ^ k) ∧ wr.ownsRow w.heap.size 4 1 v k (bitsL p k) ∧ Q w wr) (fun x _ _ => (intOf x).toNat)
  case atStart => exact ⟨0, p, by omega, rfl, hp, by show _ = _; simp, ⟨by simp [bitsL], .inl ⟨rfl, rfl⟩⟩, Q.refl _⟩
  case round =>
    obtain ⟨k, y, hk, rfl, hy, Hy, hown, hq⟩ := hrel
    by_cases h0 : y = 0
    · have hd : decide (0 < y) = false := by rw [h0]; rfl
      have hke : Hid (k = Pol.len p) := by
        show _ = _
        have h1 := Hy.out
        rw [h0] at h1
        have h2 : p < 2 ^ k := by
          rcases Nat.div_eq_zero_iff.1 h1.symm with h | h
          · have := Nat.two_pow_pos k; omega
          · exact h
        have := Pol.len_le.2 h2
        omega
      clear h0
      go_wp2
      obtain ⟨A, c, rfl, hc, hs⟩ := SeesP.of_own hown
      have HC := Lib.hid hc
      clear hc
      go_ret
      have hke' := hke.out
      subst hke'
      exact ⟨A, c, rfl, HC.out, hs, hq⟩
    · have hd : decide (0 < y) = true := decide_eq_true (by omega)
      have hk' : k < Pol.len p := by
        apply Nat.lt_of_not_le
        intro hle
        apply h0
        rw [Hy.out]
        exact Nat.div_eq_of_lt (Nat.lt_of_lt_of_le hlt.out (Nat.pow_le_pow_right (by omega) hle))
      have hb : ((y : Int) % 2 == 1) = p.testBit k := by rw [Hy.out]; exact testBit_div p k
      generalize hbit : p.testBit k = t at *
      have Hbit := Lib.hid hbit
      clear hbit
      have hhalf : Hid (y / 2 = p / 2 ^ (k + 1)) := by show _ = _; rw [Hy.out, Nat.div_div_eq_div_mul, Nat.pow_succ]
      go_wp2_with (at_builtin; refine wpList_append_own _ rfl _ _ 73 rfl w.heap.size 4 i0 (.bool false) 1 1 Try.underlying73 hi hz0 hz1 hz2 rfl (by decide) _ _ _ rfl (hown.alloc _) ⟨wr.heap.size, 0, none⟩ 1 1 [.bool t] rfl rfl ?c1 ?c2 ?c3 ?c4 ?c5 ?_)
      case c1 => exact one_cell wr (.bool t) _
      case c2 => intro u hu; simp at hu; subst hu; rfl
      case c3 => simp only [maxLen]; omega
      case c4 => omega
      case c5 => have := hq.size; simp; omega
      intro v' w1 hown1 hg1 _
      have hq1 : Q w w1 := (hq.alloc _).grown hown hg1
      have hown2 : w1.ownsRow w.heap.size 4 1 v' (k + 1) (bitsL p (k + 1)) := by rw [bitsL_snoc, Hbit.out]; exact hown1
      clear hown1 hg1 hown
      go_wp2
      go_roundw
      case rel => exact ⟨k + 1, y / 2, by omega, by go_num, by omega, hhalf.out, hown2, hq1⟩
      case measure => simp [intOf]; omega

set_option maxHeartbeats 400000 in
theorem refDeg_nat (p : Nat) (w : World) (hp : p ≤ 18446744073709551615) :
    Calls Try.prog 25 #[.int .u64 (p : Int)] w fun e w' => e = .returned (.int .i64 ((Pol.len p : Int) - 1)) ∧ Q w w' := by
  have hl := Pol.len_le64 hp
  go_enter Try.func25, Try.ntmps25
  go_wp2_with (go_at_call 32; (with_reducible refine (list_nat _ _ hp).mono ?_); rintro e w' ⟨A, c, rfl, _, hs, hq⟩)
  go_ret
  exact ⟨rfl, hq⟩

end Go.Proofs.Ytddjccjbbajgaaa
