/- The law's own small question: is 1 and 1 nothing, 3 times 3 five, and the great polynomial a prime? It is so. -/
import Derived.Test.YtgilaklgpopjeaaPolR
import Derived.Test.YtgilaklgpopjeaaPolC
namespace Go.Proofs.Ytgilaklgpopjeaa
open Go.RowKit

theorem mul33 (w : World) : Calls Try.prog 15 #[.int .u64 3, .int .u64 3] w fun e w' => e = .returned (.tuple #[.int .u64 0, .int .u64 5]) ∧ w = w' :=
  (mul_nat 3 3 w (by omega) (by omega)).mono fun e w' h => by
    rw [Pol.mul_3_3] at h
    exact h
theorem add11 (g : Nat) (w : World) (h0 : w.cell? ⟨g, 0, none⟩ = some (.int .u64 1)) (h1 : w.cell? ⟨g, 1, none⟩ = some (.int .u64 1)) :
    Calls Try.prog 11 #[.slice (some ⟨g, 0, none⟩) 2 2] w fun e w' => e = .returned (.int .u64 0) ∧ w = w' := add_two 1 1 g w (by omega) (by omega) h0 h1
theorem primeBig (w : World) : Calls Try.prog 23 #[.int .u64 17349423945073011] w fun e w' => e = .returned (.bool true) ∧ Below w.heap.size w w' :=
  (prime_nat 17349423945073011 w (by omega)).mono fun e w' h => by rwa [Pol.big_prime] at h

set_option maxHeartbeats 1000000 in
theorem bits_true (w : World) : Calls Try.prog 12 #[] w fun e w' => e = .returned (.bool true) ∧ Below w.heap.size w w' := by
  go_enter Try.func12, Try.ntmps12
  go_wp2_with (first
    | (go_at_call 15; (with_reducible refine (mul33 _).mono ?_); rintro e w' ⟨rfl, rfl⟩)
    | (go_at_call 11; (with_reducible refine (add11 _ _ (by go_simp) (by go_simp)).mono ?_); rintro e w' ⟨rfl, rfl⟩)
    | (go_at_call 23; (with_reducible refine (primeBig _).mono ?_); rintro e w' ⟨rfl, hb⟩))
  go_ret
  exact ⟨rfl, ((Below.refl _ _).alloc (Nat.le_refl _) _).trans (hb.mono (by simp))⟩
#print axioms bits_true
end Go.Proofs.Ytgilaklgpopjeaa
