/- key's Make: what it refuses; the document's Make. -/
import Derived.Test.YtcdbffgmgfblkaaDoorKec
namespace Go.Proofs.YtcdbffgmgfblkaaDoor
set_option linter.unusedVariables false
set_option linter.unusedSimpArgs false
open Go.RowKit

set_option maxHeartbeats 8000000 in
set_option maxRecDepth 100000 in
theorem make_bad (A : Option Addr) (n c : Nat) (A2 : Option Addr) (m c2 : Nat) (t : Int) (w : World) (h : n = 0 ∨ m ≠ 16 ∨ t < 0 ∨ 100000 < t) :
    Calls Tryd.prog 27 #[.slice A n c, .slice A2 m c2, .int .i64 t] w fun e w' => e = .returned (.tuple #[.agg (ringC Z32 Z32 Z32), .int .i64 1]) ∧ Hid (Q w w') := by
  have hzr := zeroR
  obtain ⟨b1, hb1⟩ : ∃ b, b = ((n : Int) == 0) := ⟨_, rfl⟩
  obtain ⟨b2, hb2⟩ : ∃ b, b = ((m : Int) != 16) := ⟨_, rfl⟩
  obtain ⟨b3, hb3⟩ : ∃ b, b = decide (t < 0) := ⟨_, rfl⟩
  obtain ⟨b4, hb4⟩ : ∃ b, b = decide (100000 < t) := ⟨_, rfl⟩
  have hor : b1 = true ∨ b2 = true ∨ b3 = true ∨ b4 = true := by
    rcases h with h | h | h | h
    · exact .inl (by rw [hb1, beq_iff_eq]; omega)
    · exact .inr (.inl (by rw [hb2, bne_iff_ne]; omega))
    · exact .inr (.inr (.inl (by rw [hb3, decide_eq_true_iff]; exact h)))
    · exact .inr (.inr (.inr (by rw [hb4, decide_eq_true_iff]; exact h)))
  have HOR := Lib.hid hor
  clear hor h
  have d1 := hb1.symm
  have d2 := hb2.symm
  have d3 := hb3.symm
  have d4 := hb4.symm
  clear hb1 hb2 hb3 hb4
  go_enter Tryd.func27, Tryd.ntmps27
  go_wp2_with (first
    | (refine gate 6 rfl ?_; go_loud (refine wpList_alloc_row rfl 46 rfl _ (zeroR _) 96 (ringF Z32 Z32 Z32) (ringC_size _ _ _) (ringC_get _ _ _) ?_; intro w1 hr1 hx1; have H1 : Hid (w1.rowIs w.heap.size 46 96 (ringF Z32 Z32 Z32) ∧ Q w w1) := ⟨hr1, hx1.q (Q.refl _)⟩; clear hr1 hx1))
    | (refine wpList_store_all rfl 46 (.tmp 6) (.tmp 26) rfl w.heap.size rfl _ rfl 96 info96 _ (ring_agg Z32 Z32 Z32) (fun i _ => ring_one _ _ _ i) 46 _ H1.out.1 ?_; intro w8 hr8 hp8; have H8 := Lib.hid (And.intro hr8 hp8); clear hr8 hp8))
  all_goals first
    | (exfalso; have hor := HOR.out; simp_all; done)
    | (refine ret_cell_tmp rfl w.heap.size rfl _ Tryd.underlying46 rfl 96 info96 (ringF Z32 Z32 Z32) (row_cells H8.out.1) rfl (fun v hv => ⟨?_, H8.out.2.q H1.out.2 (Nat.le_refl _)⟩); rw [AggIs.unique hv (ring_agg Z32 Z32 Z32)]; rfl)
end Go.Proofs.YtcdbffgmgfblkaaDoor
