/- roll.Of and the document's DocOf, good polynomial or not, in one contract each; the law's own small question rolls. -/
import Derived.Test.YtphjmicbcalbkaaRollO
import Derived.Test.YtphjmicbcalbkaaPolC
namespace Go.Proofs.Ytphjmicbcalbkaa
set_option linter.unusedVariables false
set_option linter.unusedSimpArgs false
open Go.RowKit

theorem roll_1_0 : Pol.roll 283 0 [1, 0] = 27 := by
  rw [Pol.roll_cons, Pol.roll_cons, Pol.roll_nil]
  have h1 : Pol.nxt 283 0 1 = 1 := by
    unfold Pol.nxt
    rw [← Pol.cmod_eq 64 _ _ (by decide) (by rw [← Pol.clen_eq]; decide +kernel)]; decide +kernel
  rw [h1]
  unfold Pol.nxt
  rw [← Pol.cmod_eq 64 _ _ (by decide) (by rw [← Pol.clen_eq]; decide +kernel)]; decide +kernel
theorem len_283 : Pol.len 283 = 9 := by rw [← Pol.clen_eq]; decide +kernel

/-- The sum that Of tells, and its fault. -/
noncomputable def ofP (m : Nat) (l : List Nat) : Nat := if 9 ≤ Pol.len m then Pol.roll m 0 l else 0
noncomputable def ofE (m : Nat) : Nat := if 9 ≤ Pol.len m then 0 else 1
theorem ofE_le (m : Nat) : ofE m ≤ 1 := by unfold ofE; split <;> omega
theorem ofP_lead (m : Nat) (l : List Nat) : ofP m (0 :: 0 :: l) = ofP m l := by
  unfold ofP
  split
  · have hm : m ≠ 0 := Pol.len_pos.1 (by omega)
    rw [Pol.roll_lead m hm, Pol.roll_lead m hm]
  · rfl
theorem of_nat (m : Nat) (A : Option Addr) (n c : Nat) (ok : Nat → Prop) (l : List Nat) (w : World) (hm : m ≤ 18446744073709551615) (hs : SeesP w ok A (l.map B8)) (hok : ∀ g, ok g → g < w.heap.size) (hn : l.length = n) (hll : n ≤ 9223372036854775806) (hx : ∀ x ∈ l, x ≤ 255) :
    Calls Try.prog 9 #[.int .u64 (m : Int), .slice A n c] w fun e w' => e = .returned (.tuple #[.int .u64 (ofP m l : Nat), .int .i64 (ofE m : Nat)]) ∧ Q w w' := by
  subst hn
  by_cases hl : 9 ≤ Pol.len m
  · have h := of_ok m A c ok l w hm hl hs hok (by omega) hx
    unfold ofP ofE; rw [if_pos hl, if_pos hl]; exact h
  · have h := of_bad m A l.length c w hm (by omega)
    unfold ofP ofE; rw [if_neg hl, if_neg hl]; exact h
theorem docOf_nat (m : Nat) (A : Option Addr) (n c : Nat) (ok : Nat → Prop) (l : List Nat) (w : World) (hm : m ≤ 18446744073709551615) (hs : SeesP w ok A (l.map B8)) (hok : ∀ g, ok g → g < w.heap.size) (hn : l.length = n) (hll : n ≤ 9223372036854775806) (hx : ∀ x ∈ l, x ≤ 255) :
    Calls Try.prog 10 #[.int .u64 (m : Int), .slice A n c] w fun e w' => e = .returned (.tuple #[.int .u64 (ofP m l : Nat), .int .i64 (ofE m : Nat)]) ∧ Q w w' := by
  subst hn
  by_cases hl : 9 ≤ Pol.len m
  · have h := docOf_ok m A c ok l w hm hl hs hok (by omega) hx
    unfold ofP ofE; rw [if_pos hl, if_pos hl]; exact h
  · have h := docOf_bad m A l.length c w hm (by omega)
    unfold ofP ofE; rw [if_neg hl, if_neg hl]; exact h

theorem of_283 (w : World) (t : TypeId) : Calls Try.prog 9 #[.int .u64 283, .slice (some ⟨w.heap.size, 0, none⟩) 2 2] (w.alloc (.cells #[.int .u8 1, .int .u8 0] t)) fun e w' => e = .returned (.tuple #[.int .u64 27, .int .i64 0]) ∧ Q (w.alloc (.cells #[.int .u8 1, .int .u8 0] t)) w' := by
  have h := of_nat 283 (some ⟨w.heap.size, 0, none⟩) 2 2 (· < w.heap.size + 1) [1, 0] (w.alloc (.cells #[.int .u8 1, .int .u8 0] t)) (by omega) (SeesP.new w [.int .u8 1, .int .u8 0] t) (by simp) rfl (by omega) (by simp)
  unfold ofP ofE at h
  rw [len_283, if_pos (by omega), if_pos (by omega), roll_1_0] at h
  exact h

set_option maxHeartbeats 1000000 in
theorem rolls_true (w : World) : Calls Try.prog 11 #[] w fun e w' => e = .returned (.bool true) ∧ Q w w' := by
  go_enter Try.func11, Try.ntmps11
  go_wp2_with (go_at_call 9; (with_reducible refine (of_283 _ _).mono ?_); rintro e w' ⟨rfl, hb⟩)
  go_ret
  exact ⟨rfl, (by repeat (first | exact Q.refl _ | refine Q.step ?_ (by assumption) | apply Q.alloc) : Q w _)⟩

/-- A row of literals that was just made. -/
theorem own_new (w : World) (e : TypeId) (cs : List Value) (h : cs.length ≤ maxLen) : (w.alloc (.cells cs.toArray e)).ownsRow w.heap.size e 1 (.slice (some ⟨w.heap.size, 0, none⟩) cs.length cs.length) cs.length cs :=
  ⟨by omega, .inr ⟨_, _, cs.toArray, rfl, Nat.le_refl _, heap_alloc_new _ _, Nat.le_refl _, h, by simp, by simp⟩⟩
theorem own_base {w : World} {b b' : Nat} {e : TypeId} {size n : Nat} {v : Value} {xs : List Value} (h : w.ownsRow b e size v n xs) (hb : b' ≤ b) : w.ownsRow b' e size v n xs := by
  obtain ⟨h1, h2⟩ := h
  refine ⟨h1, ?_⟩
  rcases h2 with h2 | ⟨g, cap, cur, hv, hg, r⟩
  · exact .inl h2
  · exact .inr ⟨g, cap, cur, hv, by omega, r⟩
theorem B8_one (l : List Nat) : ∀ u ∈ l.map B8, u.oneCell' = true := by
  intro u hu
  simp at hu
  obtain ⟨_, _, rfl⟩ := hu
  rfl
theorem info8 : (Try.prog.info? 5).map (fun i => (i.zero, i.size, i.bytes)) = some (some (.int .u8 0), 1, 1) := by kernel_rfl
end Go.Proofs.Ytphjmicbcalbkaa
