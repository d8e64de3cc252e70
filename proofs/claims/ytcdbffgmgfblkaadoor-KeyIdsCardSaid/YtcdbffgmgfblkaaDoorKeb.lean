/- The walk through key's closure. -/
import Derived.Test.YtcdbffgmgfblkaaDoorHmh
namespace Go.Proofs.YtcdbffgmgfblkaaDoor
set_option linter.unusedVariables false
set_option linter.unusedSimpArgs false
open Go.RowKit

set_option maxHeartbeats 8000000 in
set_option maxRecDepth 100000 in
theorem make1_ok (g : Nat) (X U : List Nat) (w : World) (hG : Glob w) (hX : X.length = 32) (hb : ∀ x ∈ X, x ≤ 255) (hU : ∀ x ∈ U, x ≤ 255) (hUl : U.length ≤ 1000) (hr : w.rowIs g 28 32 (arrF X)) :
    Calls Tryd.prog 43 #[.string (strB U), .pointer (some ⟨g, 0, none⟩)] w fun e w' => e = .returned (.agg (arrO (hmac X U))) ∧ Hid (Q w w') := by
  have HG := Lib.hid hG
  have HX := Lib.hid hX
  have HB := Lib.hid hb
  have HU := Lib.hid hU
  have HUL := Lib.hid hUl
  have HR := Lib.hid hr
  clear hG hX hb hU hUl hr
  have HKA : Hid (∀ (gb cb : Nat) (wb : World), Q w wb → gb < wb.heap.size → SeesP wb (fun k => k = gb) (some ⟨gb, 0, none⟩) (U.map B8) → Calls Tryd.prog 21 #[.slice (some ⟨g, 0, none⟩) 32 32, .slice (some ⟨wb.heap.size, 0, none⟩) 1 1] (wb.alloc (.cells #[.slice (some ⟨gb, 0, none⟩) U.length cb] 22)) fun e w'' => e = .returned (.agg (arrO (hmac X U))) ∧ Hid (Q wb w'')) := fun gb cb wb hq hlt hs => by
    have hqa := (Q.refl wb).alloc (.cells #[.slice (some ⟨gb, 0, none⟩) U.length cb] 22)
    have hsu : SeesP wb (· < wb.heap.size) (some ⟨gb, 0, none⟩) (U.map B8) := hs.more fun k hk => by subst hk; exact hlt
    have hsx : SeesP wb (· < wb.heap.size) (some ⟨g, 0, none⟩) (X.map B8) := sees_arr (row_q hq HR.out) HX.out (Nat.lt_of_lt_of_le HR.out.lt hq.size)
    have h := keyed_any (some ⟨g, 0, none⟩) 32 32 X (some ⟨wb.heap.size, 0, none⟩) 1 1 [(Value.slice (some ⟨gb, 0, none⟩) U.length cb, U)] _ (HG.out.q (hq.trans' hqa)) HX.out (hsx.on hqa) HB.out (fun h => by cases h) (new1 wb _ _) (fun h => by cases h) ((part_all hsu rfl HU.out).on hqa) rfl (by omega) (by simp only [partsL, List.flatMap_cons, List.flatMap_nil, List.append_nil]; have := HUL.out; omega) (by omega)
    simp only [partsL, List.flatMap_cons, List.flatMap_nil, List.append_nil] at h
    exact h.mono fun e w'' h => ⟨h.1, hqa.trans' h.2.out⟩
  go_enter Tryd.func43, Tryd.ntmps43
  go_wp2_with (first
    | (refine gate 3 rfl ?_; go_loud (refine wpList_alloc_row rfl 28 rfl _ (zero32 _) 32 _ rfl zer32_get ?_; intro w1 hr1 hx1; have H1 : Hid (w1.rowIs w.heap.size 28 32 (arrF []) ∧ Q w w1) := ⟨hr1, hx1.q (Q.refl _)⟩; clear hr1 hx1))
    | (refine gate 6 rfl ?_; go_loud (refine wpList_bytes_spr rfl 9 22 (.tmp 5) rfl Tryd.underlying9 Tryd.underlying22 Tryd.underlying5 U HU.out (Nat.le_trans HUL.out (by omega)) rfl ?_; intro cb wb hs3 hq3; have H3 := Lib.hid (And.intro hs3 hq3); clear hs3 hq3; have HQ3 : Hid (Q w wb) := H1.out.2.trans' H3.out.2; have HK := Lib.hid (HKA.out w1.heap.size cb wb HQ3.out H3.out.1.lt H3.out.1.sees)))
    | (go_at_call 21; (with_reducible refine HK.out.mono ?_); rintro e w4 ⟨rfl, H4⟩; have HQ4 : Hid (Q w1 w4) := H3.out.2.trans' H4.out)
    | (refine wpList_store_all rfl 28 (.tmp 3) (.tmp 8) rfl w.heap.size rfl _ rfl 32 info32b _ (arrO_agg (hmac X U)) (fun i _ => rfl) 28 _ (row_q HQ4.out H1.out.1) ?_; intro w5 hr5 hp5; have H5 := Lib.hid (And.intro hr5 hp5); clear hr5 hp5))
  refine ret_cell rfl w.heap.size rfl _ Tryd.underlying28 rfl 32 info32b _ (row_cells H5.out.1) rfl (fun v hv => ⟨by rw [arrO_eq hv], ?_⟩)
  exact H5.out.2.q (H1.out.2.trans' HQ4.out) (Nat.le_refl _)
end Go.Proofs.YtcdbffgmgfblkaaDoor
