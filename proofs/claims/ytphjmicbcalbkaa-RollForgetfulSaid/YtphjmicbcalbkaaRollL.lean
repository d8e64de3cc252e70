/- The walk through the law RollOf. -/
import Derived.Test.YtphjmicbcalbkaaRollB
import Derived.Test.YtphjmicbcalbkaaSl
namespace Go.Proofs.Ytphjmicbcalbkaa
set_option linter.unusedVariables false
set_option linter.unusedSimpArgs false
open Go.RowKit

set_option maxHeartbeats 4000000 in
set_option maxRecDepth 100000 in
theorem rollOf_nat (m : Nat) (A : Option Addr) (n c k : Nat) (l : List Nat) (w : World) (hm : m ≤ 18446744073709551615) (hs : SeesP w (· < w.heap.size) A (l.map B8)) (hA : A = none → c = 0) (hk : k = min n 2000) (hlk : l.length = k) (hx : ∀ x ∈ l, x ≤ 255) (hnc : n ≤ c) (hcm : c ≤ 9223372036854775807) :
    Calls Try.prog 3 #[.int .u64 (m : Int), .slice A n c] w fun e w' => e = .returned (.bool true) ∧ Q w w' := by
  obtain ⟨i0, hi, hz0, hz1, hz2⟩ := info_parts info8
  have HS := Lib.hid hs
  have HX := Lib.hid hx
  have HA := Lib.hid hA
  have HL := Lib.hid hlk
  have hmi : (min (n : Int) 2000) = (k : Int) := by omega
  have hk1 : k ≤ n := by omega
  have hk2 : k ≤ 2000 := by omega
  have hk3 : k ≤ c := by omega
  have hE := ofE_le m
  have hP0 : ∀ w' : World, Q w w' → Calls Try.prog 9 #[.int .u64 (m : Int), .slice A k c] w' fun e w2 => e = .returned (.tuple #[.int .u64 (ofP m l : Nat), .int .i64 (ofE m : Nat)]) ∧ Q w' w2 := fun w' hq =>
    of_nat m A k c (· < w.heap.size) l w' hm (HS.out.below hq) (fun g hg => Nat.lt_of_lt_of_le hg hq.size) hlk (by omega) hx
  have hD0 : ∀ w' : World, Q w w' → Calls Try.prog 10 #[.int .u64 (m : Int), .slice A k c] w' fun e w2 => e = .returned (.tuple #[.int .u64 (ofP m l : Nat), .int .i64 (ofE m : Nat)]) ∧ Q w' w2 := fun w' hq =>
    docOf_nat m A k c (· < w.heap.size) l w' hm (HS.out.below hq) (fun g hg => Nat.lt_of_lt_of_le hg hq.size) hlk (by omega) hx
  have hC : ∀ v1 (w' : World), w'.ownsRow w.heap.size 5 1 v1 (2 + k) (B8 0 :: B8 0 :: l.map B8) → ∃ A1 c1, v1 = .slice A1 (2 + k) c1 ∧ Calls Try.prog 9 #[.int .u64 (m : Int), .slice A1 (2 + k) c1] w' fun e w2 => e = .returned (.tuple #[.int .u64 (ofP m l : Nat), .int .i64 (ofE m : Nat)]) ∧ Q w' w2 := by
    intro v1 w' h
    obtain ⟨A1, c1, rfl, _, hs1⟩ := SeesP.of_own h
    refine ⟨A1, c1, rfl, ?_⟩
    have h := of_nat m A1 (2 + k) c1 (fun b => w.heap.size ≤ b ∧ b < w'.heap.size) (0 :: 0 :: l) w' hm (by simpa using hs1) (fun g hg => hg.2) (by simp [hlk]; omega) (by omega) (fun x hx' => by
      simp at hx'
      rcases hx' with rfl | h
      · omega
      · exact hx x h)
    rw [ofP_lead] at h
    exact h
  generalize ofP m l = p at *
  generalize ofE m = q at *
  clear hs hx hA hlk hk
  go_enter Try.func3, Try.ntmps3
  go_wp2_with (first
    | (refine gate 15 rfl ?_; (refine wpList_slice_hi rfl 23 (.tmp 11) (.tmp 14) rfl 5 Try.underlying23 i0 hi _ _ _ rfl .i64 k (by first | rfl | (show Value.int _ _ = _; rw [hmi])) hk3 ?_))
    | (go_at_call 9; (with_reducible refine (hP0 _ (Q.refl _)).mono ?_); rintro e w1 ⟨rfl, hq1⟩)
    | (go_at_call 10; (with_reducible refine (hD0 _ hq1).mono ?_); rintro e w2 ⟨rfl, hq2⟩; have hqq : Q w w2 := hq1.step hq2; clear hq1 hq2)
    | (at_builtin; refine wpList_append_sees rfl (.tmp 30) (.tmp 31) 23 rfl w.heap.size 5 i0 (.int .u8 0) 1 Try.underlying23 hi hz0 hz1 hz2 rfl _ _ _ rfl (own_base (own_new w2 5 [B8 0, B8 0] (by decide)) hqq.size) (· < w.heap.size) A k c (l.map B8) rfl HA.out (by simp [HL.out]) (HS.out.below (hqq.alloc _)) (B8_one _) ?c3 ?c4 (hqq.alloc _).size ?_))
  case c3 => simp only [maxLen]; simp; omega
  case c4 => simp; omega
  intro v3 w3 hown3 hg3 _ _
  have hq3 : Q w w3 := Q.grown (hqq.alloc _) (own_base (own_new w2 5 [B8 0, B8 0] (by decide)) hqq.size) hg3
  obtain ⟨A3, c3, rfl, HC⟩ := hC _ _ hown3
  have HC3 := Lib.hid HC
  clear HC hown3 hg3
  go_wp2_with (first
    | (go_at_call 9; (with_reducible refine HC3.out.mono ?_); rintro e w4 ⟨rfl, hq4⟩)
    | (go_at_call 11; (with_reducible refine (rolls_true _).mono ?_); rintro e w5 ⟨rfl, hq5⟩))
  go_ret
  exact ⟨rfl, (hq3.step hq4).step hq5⟩

theorem row8 {w : World} {a : Option Addr} {n c : Nat} {zs : List Int} (h : IsRow .u8 w a n c zs) (k : Nat) (hk : k ≤ n) :
    ((zs.take k).map Int.toNat).length = k ∧ SeesP w (· < w.heap.size) a (((zs.take k).map Int.toNat).map B8) ∧ (∀ x ∈ (zs.take k).map Int.toNat, x ≤ 255) ∧ n ≤ c ∧ c ≤ 9223372036854775807 ∧ (a = none → c = 0) := by
  obtain ⟨l1, l2, l3⟩ := h.len_le
  have hwf := h.wf
  refine ⟨by rw [List.length_map, List.length_take, l2]; omega, ?_, ?_, l1, by unfold maxLen at l3; omega, ?_⟩
  · have e : ((zs.take k).map Int.toNat).map B8 = (zs.map (.int .u8)).take k := by
      rw [List.map_map, ← List.map_take]
      apply List.map_congr_left
      intro z hz
      have := wf8 (hwf z (List.mem_of_mem_take hz))
      simp only [Function.comp, B8]
      rw [Int.toNat_of_nonneg this.1]
    rw [e]; exact h.sees.take k
  · intro x hx
    rw [List.mem_map] at hx
    obtain ⟨z, hz, rfl⟩ := hx
    have := wf8 (hwf z (List.mem_of_mem_take hz))
    omega
  · rintro rfl
    rcases h with ⟨_, _, h, _⟩ | ⟨x, h, _⟩
    · exact h
    · cases h

theorem rollOf_true (a : Int) (wa : (Lit.int .u64 a).wf = true) (b : Option Addr) (n c : Nat) (zs : List Int) (w : World) (wb : IsRow .u8 w b n c zs) :
    Calls Try.prog 3 #[.int .u64 a, .slice b n c] w fun e w' => e = .returned (.bool true) ∧ Below w.heap.size w w' := by
  obtain ⟨ha, ha'⟩ := wf64 wa
  obtain ⟨m, rfl⟩ := Int.eq_ofNat_of_zero_le ha
  obtain ⟨h1, h2, h3, h4, h5, h6⟩ := row8 wb (min n 2000) (by omega)
  exact rollOf_nat m b n c _ _ w (by omega) h2 h6 rfl h1 h3 h4 h5
end Go.Proofs.Ytphjmicbcalbkaa
