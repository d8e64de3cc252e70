/- The document's Make: what it refuses; the law's helpers. -/
import Derived.Test.YtcdbffgmgfblkaaDoorKef
namespace Go.Proofs.YtcdbffgmgfblkaaDoor
set_option linter.unusedVariables false
set_option linter.unusedSimpArgs false
open Go.RowKit

set_option maxHeartbeats 8000000 in
set_option maxRecDepth 100000 in
theorem docMake_bad (W S : List Nat) (t : Int) (w : World) (h : W = [] ∨ S.length ≠ 16 ∨ t < 0 ∨ 100000 < t) :
    Calls Tryd.prog 28 #[.string (strB W), .string (strB S), .int .i64 t] w fun e w' => e = .returned (.tuple #[.agg (ringC Z32 Z32 Z32), .int .i64 1]) ∧ Hid (Q w w') := by
  have hzr := zeroR2
  obtain ⟨m, hm⟩ : ∃ m, m = S.length := ⟨_, rfl⟩
  have hsz : (strB S).size = m := by rw [strB_size, hm]
  rw [← hm] at h
  clear hm
  obtain ⟨b1, hb1⟩ : ∃ b, b = (strB W).toList.isEmpty := ⟨_, rfl⟩
  obtain ⟨b2, hb2⟩ : ∃ b, b = ((m : Int) != 16) := ⟨_, rfl⟩
  obtain ⟨b3, hb3⟩ : ∃ b, b = decide (t < 0) := ⟨_, rfl⟩
  obtain ⟨b4, hb4⟩ : ∃ b, b = decide (100000 < t) := ⟨_, rfl⟩
  have hor : b1 = true ∨ b2 = true ∨ b3 = true ∨ b4 = true := by
    rcases h with h | h | h | h
    · exact .inl (by rw [hb1, h, show (strB []).toList = [] from ByteArray.toList_mk _]; rfl)
    · exact .inr (.inl (by rw [hb2, bne_iff_ne]; omega))
    · exact .inr (.inr (.inl (by rw [hb3, decide_eq_true_iff]; exact h)))
    · exact .inr (.inr (.inr (by rw [hb4, decide_eq_true_iff]; exact h)))
  have HOR := Lib.hid hor
  clear hor h
  have d1 := hb1.symm
  have d2 := hb2.symm
  have d3 := hb3.symm
  have d4 := hb4.symm
  have d0 : ((strB W).toList = []) = (b1 = true) := by rw [hb1, List.isEmpty_iff]
  clear hb1 hb2 hb3 hb4
  go_enter Tryd.func28, Tryd.ntmps28
  go_wp2_with (first
    | (refine gate 6 rfl ?_; go_loud (refine wpList_alloc_row rfl 52 rfl _ (zeroR2 _) 96 (ringF Z32 Z32 Z32) (ringC_size _ _ _) (ringC_get _ _ _) ?_; intro w1 hr1 hx1; have H1 : Hid (w1.rowIs w.heap.size 52 96 (ringF Z32 Z32 Z32) ∧ Q w w1) := ⟨hr1, hx1.q (Q.refl _)⟩; clear hr1 hx1))
    | (refine gate 24 rfl ?_; go_loud (refine wpList_build_struct rfl 52 _ rfl _ (zeroR2 _) _ Tryd.underlying52 _ (placesRing2 _ _ Tryd.underlying52) [] rfl (ringC Z32 Z32 Z32) rfl ?_))
    | (refine wpList_store_all rfl 52 (.tmp 6) (.tmp 24) rfl w.heap.size rfl _ rfl 96 info96d _ (ring_agg Z32 Z32 Z32) (fun i _ => ring_one _ _ _ i) 52 _ H1.out.1 ?_; intro w8 hr8 hp8; have H8 := Lib.hid (And.intro hr8 hp8); clear hr8 hp8))
  all_goals first
    | (exfalso; have hor := HOR.out; simp_all; done)
    | (refine ret_cell_tmp rfl w.heap.size rfl _ Tryd.underlying52 rfl 96 info96d (ringF Z32 Z32 Z32) (row_cells H8.out.1) rfl (fun v hv => ⟨?_, H8.out.2.q H1.out.2 (Nat.le_refl _)⟩); rw [AggIs.unique hv (ring_agg Z32 Z32 Z32)]; rfl)

set_option maxHeartbeats 8000000 in
set_option maxRecDepth 100000 in
/-- A row of sixteen bytes, made anew. -/
theorem salt_ok (w : World) : Calls Tryd.prog 45 #[] w fun e w' => ∃ g c, e = .returned (.slice (some ⟨g, 0, none⟩) 16 c) ∧ Hid (SeesP w' (· < w'.heap.size) (some ⟨g, 0, none⟩) (saltB.map B8) ∧ Q w w') := by
  have k1 := Lib.run_convert_bytes_const (P := Tryd.prog) w 22 5 #[.int .u8 48, .int .u8 49, .int .u8 50, .int .u8 51, .int .u8 52, .int .u8 53, .int .u8 54, .int .u8 55, .int .u8 56, .int .u8 57, .int .u8 97, .int .u8 98, .int .u8 99, .int .u8 100, .int .u8 101, .int .u8 102] 16 16 Tryd.underlying22 Tryd.underlying5
  go_enter Tryd.func45, Tryd.ntmps45
  go_wp2_with fail
  go_ret
  refine ⟨w.heap.size, 16, rfl, ?_, (Q.refl w).alloc _⟩
  exact (sees_marked w (saltB.map B8) 5 (16, 17)).more (fun b hb => by rw [alloc_size]; exact hb)
end Go.Proofs.YtcdbffgmgfblkaaDoor
