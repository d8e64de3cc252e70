/- The walk through sum's Of. -/
import Derived.Test.YtcdbffgmgfblkaaDoorShaE
namespace Go.Proofs.YtcdbffgmgfblkaaDoor
set_option linter.unusedVariables false
set_option linter.unusedSimpArgs false
open Go.RowKit

/-- The package's tables. -/
structure Glob (w : World) : Prop where
  steps : Steps w
  begin_ : ∀ i, i < 8 → w.cell? ⟨0, i, none⟩ = some (.int .u32 (u32v (h256.l.getD i 0)))
  size : 1 < w.heap.size
theorem Glob.q {w w' : World} (h : Glob w) (hq : Q w w') : Glob w' :=
  ⟨h.steps.only (S := fun _ => False) (Only.of_q hq) id h.size, fun i hi => (Below.cell (p := ⟨0, i, none⟩) hq (by have := h.size; show 0 < _; omega)).trans (h.begin_ i hi), Nat.lt_of_lt_of_le h.size hq.size⟩
/-- The parts that come in. -/
def PartsB (w : World) (ok : Nat → Prop) (parts : List (Value × List Nat)) : Prop :=
  ∀ z ∈ parts, ∃ B n c, z.1 = .slice B n c ∧ z.2.length = n ∧ SeesP w ok B (z.2.map B8) ∧ ∀ x ∈ z.2, x ≤ 255
def partsL (parts : List (Value × List Nat)) : List Nat := parts.flatMap (·.2)

theorem info73 : (Tryd.prog.info? 84).map (·.size) = some 73 := by kernel_rfl
theorem zst_eq : Tryd.zeroCells84 = zRow2 (List.replicate 8 (.int .u32 0)) 64 (.int .u8 0) [.int .i64 0] := by kernel_rfl
theorem zst_get (i : Nat) (h : i < 73) : Tryd.zeroCells84[i]? = some (if i < 8 then (List.replicate 8 (.int .u32 0)).getD i (.int .u8 0) else if i < 8 + 64 then .int .u8 0 else [Value.int .i64 0].getD (i - 8 - 64) (.int .u8 0)) := by
  rw [zst_eq]; exact zRow2_get _ _ _ _ i h
theorem st0_eq : ((((((((Tryd.zeroCells84.setIfInBounds 0 (Value.int IntKind.u32 (u32v 1779033703#32))).setIfInBounds 1 (Value.int IntKind.u32 (u32v 3144134277#32))).setIfInBounds 2 (Value.int IntKind.u32 (u32v 1013904242#32))).setIfInBounds 3 (Value.int IntKind.u32 (u32v 2773480762#32))).setIfInBounds 4 (Value.int IntKind.u32 (u32v 1359893119#32))).setIfInBounds 5 (Value.int IntKind.u32 (u32v 2600822924#32))).setIfInBounds 6 (Value.int IntKind.u32 (u32v 528734635#32))).setIfInBounds 7 (Value.int IntKind.u32 (u32v 1541459225#32)))
    = zRow2 [W32 h256.a, W32 h256.b, W32 h256.c, W32 h256.d, W32 h256.e, W32 h256.f, W32 h256.g, W32 h256.h] 64 (.int .u8 0) [.int .i64 0] := by kernel_rfl
theorem st0_agg : AggIs (.agg ((((((((Tryd.zeroCells84.setIfInBounds 0 (Value.int IntKind.u32 (u32v 1779033703#32))).setIfInBounds 1 (Value.int IntKind.u32 (u32v 3144134277#32))).setIfInBounds 2 (Value.int IntKind.u32 (u32v 1013904242#32))).setIfInBounds 3 (Value.int IntKind.u32 (u32v 2773480762#32))).setIfInBounds 4 (Value.int IntKind.u32 (u32v 1359893119#32))).setIfInBounds 5 (Value.int IntKind.u32 (u32v 2600822924#32))).setIfInBounds 6 (Value.int IntKind.u32 (u32v 528734635#32))).setIfInBounds 7 (Value.int IntKind.u32 (u32v 1541459225#32)))) 73 (stF h256 (fun _ => 0) 0) := by
  rw [st0_eq]
  refine ⟨_, rfl, by rw [zRow2_size]; rfl, fun i hi => ?_⟩
  rw [zRow2_get _ _ _ _ i hi]
  unfold stF
  by_cases h8 : i < 8
  · have h8' : i < [W32 h256.a, W32 h256.b, W32 h256.c, W32 h256.d, W32 h256.e, W32 h256.f, W32 h256.g, W32 h256.h].length := h8
    rw [if_pos h8', if_pos h8]
    exact congrArg some (below8 (p := fun i => [W32 h256.a, W32 h256.b, W32 h256.c, W32 h256.d, W32 h256.e, W32 h256.f, W32 h256.g, W32 h256.h].getD i (.int .u8 0) = W32 (h256.l.getD i 0)) rfl rfl rfl rfl rfl rfl rfl rfl i h8)
  · have h8' : ¬ i < [W32 h256.a, W32 h256.b, W32 h256.c, W32 h256.d, W32 h256.e, W32 h256.f, W32 h256.g, W32 h256.h].length := h8
    rw [if_neg h8', if_neg h8]
    by_cases h72 : i < 72
    · rw [if_pos (by show i < 8 + 64; omega), if_pos h72]; rfl
    · have : i = 72 := by omega
      subst this; rfl
theorem st0_one : ∀ i, i < 73 → (stF h256 (fun _ => 0) 0 i).oneCell' = true := fun i _ => by
  unfold stF
  split
  · rfl
  · split <;> rfl

set_option maxHeartbeats 8000000 in
set_option maxRecDepth 100000 in
theorem of_ok (A : Option Addr) (n c : Nat) (parts : List (Value × List Nat)) (ok : Nat → Prop) (w : World) (hG : Glob w) (hn : parts.length = n) (hs : SeesP w ok A (parts.map (·.1))) (hp : PartsB w ok parts) (hok : ∀ b, ok b → b < w.heap.size) (hlen : (partsL parts).length ≤ 10000000000) (hn64 : n ≤ 1000000) :
    Calls Tryd.prog 18 #[.slice A n c] w fun e w' => ∃ V, e = .returned V ∧ Hid (AggIs V 32 (arrF (sha (partsL parts))) ∧ Q w w') := by
  have HN := Lib.hid hn
  have HG := Lib.hid hG
  have HS := Lib.hid hs
  have HP := Lib.hid hp
  have HOK := Lib.hid hok
  have HL := Lib.hid hlen
  clear hG hn hs hp hok hlen
  go_enter Tryd.func18, Tryd.ntmps18
  go_wp2_with (first
    | (refine gate 2 rfl ?_; go_loud (refine wpList_alloc_row rfl 28 rfl _ (zero32 _) 32 _ rfl zer32_get ?_; intro w1 hr1 hx1; have H1 := Lib.hid (And.intro hr1 hx1); have hb := (HG.out.q (hx1.q (Q.refl _))).begin_; have b0 := hb 0 (by omega); have b1 := hb 1 (by omega); have b2 := hb 2 (by omega); have b3 := hb 3 (by omega); have b4 := hb 4 (by omega); have b5 := hb 5 (by omega); have b6 := hb 6 (by omega); have b7 := hb 7 (by omega); simp only [h256, V8.l, List.getD_cons_zero, List.getD_cons_succ] at b0 b1 b2 b3 b4 b5 b6 b7; clear hr1 hx1 hb))
    | (refine gate 3 rfl ?_; go_loud (refine wpList_alloc_row rfl 84 rfl _ (Tryd.zeroValue84 _) 73 _ rfl zst_get ?_; intro w3 hr3 hx3; have H3 := Lib.hid (And.intro hr3 hx3); clear hr3 hx3))
    | (refine wpList_store_all rfl 84 (.tmp 3) (.tmp 7) rfl w1.heap.size rfl _ rfl 73 info73 (stF h256 (fun _ => 0) 0) st0_agg st0_one 84 _ H3.out.1 ?_; intro w4 hr4 hp4; have H4 := Lib.hid (And.intro hr4 hp4); clear hr4 hp4))
  clear b0 b1 b2 b3 b4 b5 b6 b7
  have HQ3 : Hid (Q w w3) := Ext.q H3.out.2 (H1.out.2.q (Q.refl _))
  have hgw : w.heap.size < w1.heap.size := by have := H1.out.2.size; omega
  have hg1 : 1 < w1.heap.size := Nat.lt_trans HG.out.size hgw
  have HQ4 : Hid (Q w w4) := H4.out.2.q HQ3.out (Nat.le_of_lt hgw)
  have HB4 : Hid (w4.rowIs w.heap.size 28 32 (arrF [])) := H4.out.2.row (H3.out.2.row H1.out.1) (by omega)
  have H0 : Hid (StHas w4 w1.heap.size (partsL (parts.take 0)) ∧ Only (fun k => k = w1.heap.size) w4 w4) := ⟨⟨fun _ => 0, H4.out.1, fun _ _ => Nat.zero_le _, fun j hj => by simp [partsL] at hj⟩, Only.refl _ _⟩
  go_loopw [10] (fun i wr => ∃ k : Nat, k ≤ n ∧ i = .int .i64 k ∧ Hid (StHas wr w1.heap.size (partsL (parts.take k)) ∧ Only (fun k => k = w1.heap.size) w4 wr)) (fun i _ => n - (intOf i).toNat)
  case atStart => exact ⟨0, by omega, rfl, H0.out⟩
  case round =>
    obtain ⟨k, hk, rfl, HW⟩ := hrel
    have HQr : Hid (Q w wr) := HW.out.2.q HQ4.out (fun k hk => by rw [hk]; exact Nat.le_of_lt hgw)
    by_cases hkn : k < n
    · have hkl : k < parts.length := by rw [HN.out]; exact hkn
      obtain ⟨B, m, c', hz, hzl, hzs, hzb⟩ := HP.out parts[k] (List.getElem_mem hkl)
      obtain ⟨bb, oo, rfl, hbb, hc⟩ := (HS.out.belowP HOK.out HQr.out).at_ (k := k) (u := parts[k].1) (by simp [hkl])
      rw [hz] at hc
      have HNX : Hid (partsL (parts.take (k + 1)) = partsL (parts.take k) ++ parts[k].2) := by show _ = _; unfold partsL; rw [List.take_succ_eq_append_getElem hkl, List.flatMap_append, List.flatMap_singleton]
      have hpl : (partsL (parts.take k)).length + m ≤ 10000000000 := by
        have h1 := HL.out
        have h2 : partsL parts = partsL (parts.take (k + 1)) ++ partsL (parts.drop (k + 1)) := by unfold partsL; rw [← List.flatMap_append, List.take_append_drop]
        rw [h2, HNX.out, List.length_append, List.length_append, hzl] at h1
        omega
      have HTK := Lib.hid (take_ok1 w1.heap.size m c' B (partsL (parts.take k)) parts[k].2 ok wr HW.out.1 ((HG.out.q HQr.out).steps) hg1 (hzs.belowP HOK.out HQr.out) (fun b hb => ⟨Nat.lt_of_lt_of_le (HOK.out b hb) HQr.out.size, by have := HOK.out b hb; omega⟩) hzb hzl (by omega))
      clear hz hzl hzs hzb hbb hpl
      go_wp2_with (go_at_call 40; go_loud ((with_reducible refine HTK.out.mono ?_); rintro e w5 ⟨rfl, H5⟩))
      go_roundw
      case rel => exact ⟨k + 1, by omega, by go_num, by rw [HNX.out]; exact H5.out.1, HW.out.2.trans H5.out.2⟩
      case measure => simp [intOf]; omega
    · have hkn' : k = n := by omega
      have HF : Hid (StHas wr w1.heap.size (partsL parts)) := by
        have h1 := HW.out.1
        rw [hkn', List.take_of_length_le (by rw [HN.out]; exact Nat.le_refl _)] at h1
        exact h1
      clear hkn'
      have HEND := Lib.hid (end_ok w1.heap.size (partsL parts) wr HF.out (HG.out.q HQr.out).steps hg1 (by have := HL.out; omega))
      have HBr : Hid (wr.rowIs w.heap.size 28 32 (arrF [])) := HW.out.2.row HB4.out (by show ¬ w.heap.size = w1.heap.size; omega)
      go_wp2_with (first
        | (go_at_call 41; go_loud ((with_reducible refine HEND.out.mono ?_); rintro e w5 ⟨V, rfl, H5⟩))
        | (refine wpList_store_all rfl 28 (.tmp 2) (.tmp 17) rfl w.heap.size rfl V rfl 32 info32b (arrF (sha (partsL parts))) H5.out.1 (fun i _ => rfl) 28 _ (H5.out.2.row HBr.out (by show ¬ w.heap.size = w1.heap.size; omega)) ?_; intro w6 hr6 hp6; have H6 := Lib.hid (And.intro hr6 hp6); clear hr6 hp6))
      refine ret_cell rfl w.heap.size rfl _ Tryd.underlying28 rfl 32 info32b (arrF (sha (partsL parts))) (row_cells H6.out.1) rfl (fun v hv => ⟨v, rfl, hv, ?_⟩)
      exact H6.out.2.q (H5.out.2.q HQr.out (fun k hk => by rw [hk]; exact Nat.le_of_lt hgw)) (Nat.le_refl _)
end Go.Proofs.YtcdbffgmgfblkaaDoor
