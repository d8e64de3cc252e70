/- The walk through the document's Make. -/
import Derived.Test.YtcdbffgmgfblkaaDoorKee
namespace Go.Proofs.YtcdbffgmgfblkaaDoor
set_option linter.unusedVariables false
set_option linter.unusedSimpArgs false
open Go.RowKit

theorem zeroR2 (w : World) : (zeroValue 52).run Tryd.prog w = .ok (.agg (ringC Z32 Z32 Z32)) w := by kernel_rfl
theorem zeroK2 (w : World) : (zeroValue 50).run Tryd.prog w = .ok (.agg (arrO Z32 ++ arrO Z32)) w := by kernel_rfl
theorem info96d : (Tryd.prog.info? 52).map (·.size) = some 96 := by kernel_rfl

set_option maxRecDepth 100000 in
theorem placesKeys2 (w : World) (fields : Array Field) (h : Tryd.prog.underlying 50 = some (.struct fields)) : (fields.mapM (fun f => (do pure (f.offset, ← sizeOf f.type) : Sem (Nat × Nat)))).run Tryd.prog w = .ok #[(0, 32), (32, 32)] w := by
  rw [Tryd.underlying50] at h
  injection h with h
  injection h with h
  subst h
  kernel_rfl
set_option maxRecDepth 100000 in
theorem placesRing2 (w : World) (fields : Array Field) (h : Tryd.prog.underlying 52 = some (.struct fields)) : (fields.mapM (fun f => (do pure (f.offset, ← sizeOf f.type) : Sem (Nat × Nat)))).run Tryd.prog w = .ok #[(0, 64), (64, 32)] w := by
  rw [Tryd.underlying52] at h
  injection h with h
  injection h with h
  subst h
  kernel_rfl

set_option maxHeartbeats 8000000 in
set_option maxRecDepth 100000 in
theorem docMake_ok (W S : List Nat) (t : Int) (T : Nat) (w : World) (hbW : ∀ x ∈ W, x ≤ 255) (hn : W.length ≤ 1000) (hbS : ∀ x ∈ S, x ≤ 255)
    (h1 : W ≠ []) (h2 : S.length = 16) (h3 : 0 ≤ t) (h4 : t ≤ 100000) (hT : t = (T : Int)) :
    Calls Tryd.prog 28 #[.string (strB W), .string (strB S), .int .i64 t] w fun e w' => e = .returned (.tuple #[.agg (ringC (hmac (stretch W S T) hideB) (hmac (stretch W S T) markB) (hmac (stretch W S T) nameB)), .int .i64 0]) ∧ Hid (Q w w') := by
  subst hT
  have hsz : (strB S).size = 16 := by rw [strB_size, h2]
  have d0 : (strB W).toList = W.map UInt8.ofNat := ByteArray.toList_mk _
  have d1 : ¬ (strB W).toList = [] := by rw [d0]; intro h; exact h1 (List.map_eq_nil_iff.1 h)
  have d2 : (strB W).toList.isEmpty = false := by cases h : (strB W).toList; exact absurd h d1; rfl
  clear d0
  have HST := Lib.hid (fun wx => refStretch_ok W S (T : Int) T wx hbW hbS (by omega) (by omega) (by omega))
  have HXL := Lib.hid (stretch_len W S T)
  have HXB := Lib.hid (stretch_byte W S T)
  clear hbW hbS h1 h2 hn
  have d3 : decide ((T : Int) < 0) = false := by rw [decide_eq_false_iff_not]; omega
  have d4 : decide ((100000 : Int) < (T : Int)) = false := by rw [decide_eq_false_iff_not]; omega
  generalize stretch W S T = X at *
  have HKC : Hid (∀ wx, (Calls Tryd.prog 20 #[.string (strB X), .string ⟨#[104, 105, 100, 101]⟩] wx fun e w' => e = .returned (.string (strB (hmac X hideB))) ∧ Hid (Q wx w')) ∧ (Calls Tryd.prog 20 #[.string (strB X), .string ⟨#[109, 97, 114, 107]⟩] wx fun e w' => e = .returned (.string (strB (hmac X markB))) ∧ Hid (Q wx w')) ∧ (Calls Tryd.prog 20 #[.string (strB X), .string ⟨#[110, 97, 109, 101]⟩] wx fun e w' => e = .returned (.string (strB (hmac X nameB))) ∧ Hid (Q wx w'))) := fun wx => ⟨refKeyed_ok X hideB HXB.out (by decide) (by rw [HXL.out]; omega) (by decide) wx, refKeyed_ok X markB HXB.out (by decide) (by rw [HXL.out]; omega) (by decide) wx, refKeyed_ok X nameB HXB.out (by decide) (by rw [HXL.out]; omega) (by decide) wx⟩
  have HOF : Hid (∀ wx, (Calls Tryd.prog 44 #[.string (strB (hmac X hideB))] wx fun e w' => e = .returned (.agg (arrO (hmac X hideB))) ∧ Hid (Q wx w')) ∧ (Calls Tryd.prog 44 #[.string (strB (hmac X markB))] wx fun e w' => e = .returned (.agg (arrO (hmac X markB))) ∧ Hid (Q wx w')) ∧ (Calls Tryd.prog 44 #[.string (strB (hmac X nameB))] wx fun e w' => e = .returned (.agg (arrO (hmac X nameB))) ∧ Hid (Q wx w'))) := fun wx => ⟨refof_ok _ (hmac_byte _ _) (hmac_len _ _) wx, refof_ok _ (hmac_byte _ _) (hmac_len _ _) wx, refof_ok _ (hmac_byte _ _) (hmac_len _ _) wx⟩
  generalize hmac X hideB = XH at *
  generalize hmac X markB = XM at *
  generalize hmac X nameB = XN at *
  go_enter Tryd.func28, Tryd.ntmps28
  go_wp2_with (first
    | (refine gate 6 rfl ?_; go_loud (refine wpList_alloc_row rfl 52 rfl _ (zeroR2 _) 96 (ringF Z32 Z32 Z32) (ringC_size _ _ _) (ringC_get _ _ _) ?_; intro w1 hr1 hx1; have H1 : Hid (w1.rowIs w.heap.size 52 96 (ringF Z32 Z32 Z32) ∧ Q w w1) := ⟨hr1, hx1.q (Q.refl _)⟩; clear hr1 hx1))
    | (go_at_call 23; (with_reducible refine (HST.out _).mono ?_); rintro e w2 ⟨rfl, H2⟩)
    | (go_at_call 20; first
        | ((with_reducible refine (HKC.out _).1.mono ?_); rintro e w3 ⟨rfl, H3⟩)
        | ((with_reducible refine (HKC.out _).2.1.mono ?_); rintro e w5 ⟨rfl, H5⟩)
        | ((with_reducible refine (HKC.out _).2.2.mono ?_); rintro e w7 ⟨rfl, H7⟩))
    | (go_at_call 44; first
        | ((with_reducible refine (HOF.out _).1.mono ?_); rintro e w4 ⟨rfl, H4⟩)
        | ((with_reducible refine (HOF.out _).2.1.mono ?_); rintro e w6 ⟨rfl, H6⟩)
        | ((with_reducible refine (HOF.out _).2.2.mono ?_); rintro e w8 ⟨rfl, H8⟩; have HQ8 : Hid (Q w1 w8) := H2.out.trans' (H3.out.trans' (H4.out.trans' (H5.out.trans' (H6.out.trans' (H7.out.trans' H8.out)))))))
    | (refine gate 35 rfl ?_; go_loud (refine wpList_build_struct rfl 50 _ rfl _ (zeroK2 _) _ Tryd.underlying50 _ (placesKeys2 _ _ Tryd.underlying50) [(0, .agg (arrO XH)), (1, .agg (arrO XM))] rfl (arrO XH ++ arrO XM) (fillKeys XH XM) ?_))
    | (refine gate 39 rfl ?_; go_loud (refine wpList_build_struct rfl 52 _ rfl _ (zeroR2 _) _ Tryd.underlying52 _ (placesRing2 _ _ Tryd.underlying52) [(0, .agg (arrO XH ++ arrO XM)), (1, .agg (arrO XN))] rfl (ringC XH XM XN) (fillRing XH XM XN) ?_))
    | (refine wpList_store_all rfl 52 (.tmp 6) (.tmp 39) rfl w.heap.size rfl _ rfl 96 info96d _ (ring_agg XH XM XN) (fun i _ => ring_one _ _ _ i) 52 _ (row_q HQ8.out H1.out.1) ?_; intro w9 hr9 hp9; have H9 := Lib.hid (And.intro hr9 hp9); clear hr9 hp9))
  refine ret_cell_tmp rfl w.heap.size rfl _ Tryd.underlying52 rfl 96 info96d (ringF XH XM XN) (row_cells H9.out.1) rfl (fun v hv => ⟨?_, H9.out.2.q (H1.out.2.trans' HQ8.out) (Nat.le_refl _)⟩)
  rw [AggIs.unique hv (ring_agg XH XM XN)]; rfl
end Go.Proofs.YtcdbffgmgfblkaaDoor
