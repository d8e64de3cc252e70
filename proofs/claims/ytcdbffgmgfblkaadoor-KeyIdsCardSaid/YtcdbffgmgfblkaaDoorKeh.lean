/- The walk through the law's rings. -/
import Derived.Test.YtcdbffgmgfblkaaDoorKeg
import Derived.Deep.DeepCutAuto
import Derived.Deep.RegionHeld3
namespace Go.Proofs.YtcdbffgmgfblkaaDoor
set_option linter.unusedVariables false
set_option linter.unusedSimpArgs false
open Go.RowKit

theorem zer32_arrK : zer32 = arrO (List.replicate 32 0) := by kernel_rfl
theorem run_neq_arr (op : Oper) (L M : List Nat) (hl : L.length = 32) (hm : M.length = 32) (hne : L ≠ M) (ρ : Operand → Value) (x y : Operand) (t : TypeId) (ho : op.op = .binOp .neq 28 x y t) (hx : ρ x = .agg (arrO L)) (hy : ρ y = .agg (arrO M)) (w : World) : (execOp ρ op).run Tryd.prog w = .ok (.value (.bool true)) w := by
  have h1 : (eqGuard .neq 28 x y (.agg (arrO L)) (.agg (arrO M))).run Tryd.prog w = .ok () w := run_eqGuard_agg w .neq 28 x y (arrO L) (arrO M) eqGuard32
  have h2 : (binOp .neq 28 (.agg (arrO L)) (.agg (arrO M))).run Tryd.prog w = .ok (.bool true) w := by
    rw [run_neq_struct, eq_arr L M hl hm w, decide_eq_false hne]; rfl
  unfold execOp
  simp only [ho, hx, hy, Sem.run_bind, h1, Result.andThen_ok, h2, Sem.run_pure]
theorem load_part {w : World} {a : Act} {o : Oper} {g : Nat} (off : Nat) {L : List Nat} (x : Operand) (ho : o.op = .load 28 x) (hx : a.eval x = .pointer (some ⟨g, off, none⟩)) (hc : ∀ i, i < 32 → w.cell? ⟨g, off + i, none⟩ = some (arrF L i)) : (execOp a.eval o).run Tryd.prog w = .ok (.value (.agg (arrO L))) w :=
  exec_load_agg 28 x ho g off hx _ Tryd.underlying28 rfl 32 info32b (arrF L) hc
theorem ring_cells {w : World} {g : Nat} {t : TypeId} {h m n : List Nat} (hr : w.rowIs g t 96 (ringF h m n)) : (∀ i, i < 32 → w.cell? ⟨g, 0 + i, none⟩ = some (arrF h i)) ∧ (∀ i, i < 32 → w.cell? ⟨g, 32 + i, none⟩ = some (arrF m i)) ∧ (∀ i, i < 32 → w.cell? ⟨g, 64 + i, none⟩ = some (arrF n i)) := by
  refine ⟨fun i hi => ?_, fun i hi => ?_, fun i hi => ?_⟩
  · rw [hr.cell (by omega)]; unfold ringF; rw [if_pos (by omega), Nat.zero_add]
  · rw [hr.cell (by omega)]; unfold ringF; rw [if_neg (by omega), if_pos (by omega), show 32 + i - 32 = i by omega]
  · rw [hr.cell (by omega)]; unfold ringF; rw [if_neg (by omega), if_neg (by omega), show 64 + i - 64 = i by omega]

set_option maxHeartbeats 8000000 in
set_option maxRecDepth 100000 in
theorem rings_ok (w : World) (hG : Glob w) : Calls Tryd.prog 29 #[] w fun e w' => e = .returned (.bool true) ∧ Hid (Q w w') := by
  have HG := Lib.hid hG
  clear hG
  have k1 := Lib.run_convert_bytes_const (P := Tryd.prog) w 22 5 #[.int .u8 119, .int .u8 111, .int .u8 114, .int .u8 100] 4 4 Tryd.underlying22 Tryd.underlying5
  obtain ⟨wa, hwa⟩ : ∃ wa, wa = w.alloc (.cells #[.int .u8 119, .int .u8 111, .int .u8 114, .int .u8 100] 5 (4, 5)) := ⟨_, rfl⟩
  have HQA : Hid (Q w wa) := by rw [hwa]; exact (Q.refl w).alloc _
  have HSA : Hid (SeesP wa (· < wa.heap.size) (some ⟨w.heap.size, 0, none⟩) (wordB.map B8)) := by rw [hwa]; exact (sees_marked w (wordB.map B8) 5 (4, 5)).more (fun b hb => by rw [alloc_size]; exact hb)
  have HWA : Hid (wa = w.alloc (.cells #[.int .u8 119, .int .u8 111, .int .u8 114, .int .u8 100] 5 (4, 5))) := hwa
  clear hwa
  have HMK : Hid (∀ (g c : Nat) (wx : World), Q wa wx → SeesP wx (· < wx.heap.size) (some ⟨g, 0, none⟩) (saltB.map B8) → Calls Tryd.prog 27 #[.slice (some ⟨w.heap.size, 0, none⟩) 4 4, .slice (some ⟨g, 0, none⟩) 16 c, .int .i64 1] wx fun e w' => e = .returned (.tuple #[.agg (ringC (hmac (stretch wordB saltB 1) hideB) (hmac (stretch wordB saltB 1) markB) (hmac (stretch wordB saltB 1) nameB)), .int .i64 0]) ∧ Hid (Q wx w')) := fun g c wx hq hs =>
    make_ok (some ⟨w.heap.size, 0, none⟩) 4 4 wordB (some ⟨g, 0, none⟩) 16 c saltB 1 1 wx (HG.out.q (HQA.out.trans' hq)) rfl (HSA.out.on hq) (by decide) (fun h => by cases h) (by omega) rfl hs (by decide) (by omega) rfl (by omega) (by omega) rfl
  have hn1 := real_ne.1
  have hn2 := real_ne.2
  have HN1 := Lib.hid hn1
  have HN2 := Lib.hid hn2
  clear hn1 hn2
  have HL1 := Lib.hid (hmac_len (stretch wordB saltB 1) hideB)
  have HL2 := Lib.hid (hmac_len (stretch wordB saltB 1) markB)
  have HL3 := Lib.hid (hmac_len (stretch wordB saltB 1) nameB)
  generalize hmac (stretch wordB saltB 1) hideB = XH at *
  generalize hmac (stretch wordB saltB 1) markB = XM at *
  generalize hmac (stretch wordB saltB 1) nameB = XN at *
  have hz32 := zero32
  go_enter Tryd.func29, Tryd.ntmps29
  go_wp2_with (first
    | (go_at_call 45; first
        | (rw [← HWA.out]; (with_reducible refine (salt_ok wa).mono ?_); rintro e w1 ⟨gs, cs, rfl, H1⟩)
        | ((with_reducible refine (salt_ok w4).mono ?_); rintro e w5 ⟨gs2, cs2, rfl, H5⟩))
    | (go_at_call 27; first
        | ((with_reducible refine (HMK.out gs cs w1 H1.out.2 H1.out.1).mono ?_); rintro e w2 ⟨rfl, H2⟩; have HQ2 : Hid (Q wa w2) := H1.out.2.trans' H2.out)
        | ((with_reducible refine (make_bad none 0 0 (some ⟨gs2, 0, none⟩) 16 cs2 1 w5 (.inl rfl)).mono ?_); rintro e w6 ⟨rfl, H6⟩; have HQ6 : Hid (Q w4 w6) := H5.out.2.trans' H6.out))
    | (refine gate 1 rfl ?_; go_loud (refine wpList_alloc_row rfl 46 rfl _ (zeroR _) 96 (ringF Z32 Z32 Z32) (ringC_size _ _ _) (ringC_get _ _ _) ?_; intro w3 hr3 hx3; have H3 := Lib.hid (And.intro hr3 hx3); clear hr3 hx3))
    | (refine wpList_store_all rfl 46 (.tmp 1) (.tmp 10) rfl w2.heap.size rfl _ rfl 96 info96 _ (ring_agg XH XM XN) (fun i _ => ring_one _ _ _ i) 46 _ H3.out.1 ?_; intro w4 hr4 hp4; have H4 : Hid (w4.rowIs w2.heap.size 46 96 (ringF XH XM XN) ∧ Q w2 w4) := ⟨hr4, hp4.q (H3.out.2.q (Q.refl _)) (Nat.le_refl _)⟩; clear hr4 hp4)
    | (refine gate 3 rfl ?_; go_loud (refine wpList_alloc_row rfl 46 rfl _ (zeroR _) 96 (ringF Z32 Z32 Z32) (ringC_size _ _ _) (ringC_get _ _ _) ?_; intro w7 hr7 hx7; have H7 := Lib.hid (And.intro hr7 hx7); clear hr7 hx7))
    | (refine wpList_store_all rfl 46 (.tmp 3) (.tmp 15) rfl w6.heap.size rfl _ rfl 96 info96 _ (ring_agg Z32 Z32 Z32) (fun i _ => ring_one _ _ _ i) 46 _ H7.out.1 ?_; intro w8 hr8 hp8; have HQ8 : Hid (Q w4 w8) := hp8.q (H7.out.2.q HQ6.out) HQ6.out.size; have HC8 := Lib.hid (ring_cells (row_q HQ8.out H4.out.1)); clear hr8 hp8)
    | (refine gate 26 rfl ?_; refine wpList_run_gd (by rfl) (load_part 0 (.tmp 25) rfl rfl HC8.out.1) ?_)
    | (refine gate 29 rfl ?_; refine wpList_run_gd (by rfl) (load_part 32 (.tmp 28) rfl rfl HC8.out.2.1) ?_)
    | (refine gate 30 rfl ?_; refine wpList_run_gd (by rfl) (run_neq_arr _ XH XM HL1.out HL2.out HN1.out _ _ _ _ rfl rfl rfl _) ?_)
    | (refine gate 34 rfl ?_; refine wpList_run_gd (by rfl) (load_part 64 (.tmp 33) rfl rfl HC8.out.2.2) ?_)
    | (refine gate 36 rfl ?_; refine wpList_run_gd (by rfl) (run_neq_arr _ XN (List.replicate 32 0) HL3.out (by simp) HN2.out _ _ _ _ rfl rfl (congrArg Value.agg zer32_arrK) _) ?_))
  go_ret
  exact ⟨rfl, HQA.out.trans' (HQ2.out.trans' (H4.out.2.trans' HQ8.out))⟩
end Go.Proofs.YtcdbffgmgfblkaaDoor
