/- The walk through the document's Keyed. -/
import Derived.Test.YtcdbffgmgfblkaaDoorHmb
import Derived.BigRegion
import Derived.Deep.RegionHeld3
namespace Go.Proofs.YtcdbffgmgfblkaaDoor
set_option linter.unusedVariables false
set_option linter.unusedSimpArgs false
open Go.RowKit

/-- A row of noughts while it is filled. -/
def padG (v : Nat) (K : List Nat) (k i : Nat) : Value := B8 (if i < k then K.getD i 0 ^^^ v else 0)
theorem padG_end (v : Nat) (K : List Nat) {i : Nat} (hi : i < 64) : padG v K 64 i = arrF (padB v K) i := by
  rw [← padF_end v K hi]
  unfold padG padF
  rw [if_pos hi, if_pos hi]
theorem padG_eq {v k : Nat} {L : List Nat} {Y X : Value} (hY : Y = B8 (L.getD k 0 ^^^ v)) (i : Nat) : (if i = k then Y else if i = k then X else padG v L k i) = padG v L (k + 1) i := by
  unfold padG
  rcases Nat.lt_trichotomy i k with h | h | h
  · rw [if_neg (by omega), if_neg (by omega), if_pos h, if_pos (by omega)]
  · subst h; rw [if_pos rfl, if_pos (by omega), hY]
  · rw [if_neg (by omega), if_neg (by omega), if_neg (by omega), if_neg (by omega)]
theorem padG_eq1 {v k : Nat} {L : List Nat} {Y : Value} (hY : Y = B8 (L.getD k 0 ^^^ v)) (i : Nat) : (if i = k then Y else padG v L k i) = padG v L (k + 1) i := by
  rw [← padG_eq (X := Y) hY i]
  split <;> rfl
theorem run_index_strB {P : Program} (t : TypeId) (h : P.underlying t = some .string) (L : List Nat) (hb : ∀ x ∈ L, x ≤ 255) (k : IntKind) (i : Nat) (hi : i < L.length) (w : World) : (Instr.index t (.string (strB L)) (.int k (i : Int))).run P w = .ok (.int .u8 ((L.getD i 0 : Nat) : Int)) w := by
  have hs : (strB L).size = L.length := strB_size L
  rw [run_index_string w t (strB L) k i h, dif_pos ⟨by omega, by omega⟩]
  have h1 : ((strB L)[(i : Int).toNat]'(by omega)).toNat = L.getD i 0 := by
    have e : (strB L)[(i : Int).toNat]'(by omega) = (L.map UInt8.ofNat)[i]'(by rw [List.length_map]; exact hi) := rfl
    rw [e, List.getElem_map, List.getD_eq_getElem?_getD, List.getElem?_eq_getElem hi]
    have := hb _ (List.getElem_mem hi)
    simp only [UInt8.toNat_ofNat', Option.getD_some]
    omega
  rw [h1]

theorem make64 (w : World) : (Instr.makeSlice 22 (.int .i64 64) (.int .i64 64)).run Tryd.prog w = .ok (.slice (some ⟨w.heap.size, 0, none⟩) 64 64) (w.alloc (.cells zer64b 5)) := by
  obtain ⟨i8, hi8, hz80, hz81, hz82⟩ := info_parts info8
  have h := run_make (P := Tryd.prog) w 22 5 i8 (.int .u8 0) Tryd.underlying22 hi8 hz80 .i64 .i64 64 64 (by omega) (by omega) (by rw [hz82]; omega) (by omega)
  have e2 : madeCells (Value.int .u8 0).cells ((64 : Int).toNat * i8.size) = zer64b := by
    rw [hz81]
    kernel_rfl
  rw [e2] at h
  exact h
theorem zer64b_row (w : World) (v : Nat) (L : List Nat) : (w.alloc (.cells zer64b 5)).rowIs w.heap.size 5 64 (padG v L 0) := by
  have h := World.rowIs_alloc w zer64b 5 (padG v L 0) (fun i hi => by
    rw [zer64b_get i hi]; unfold padG arrF; rw [if_neg (by omega)]; rfl)
  exact h
theorem zer64b_row2 (w : World) (v : Nat) (L : List Nat) : ((w.alloc (.cells zer64b 5)).alloc (.cells zer64b 5)).rowIs (w.heap.size + 1) 5 64 (padG v L 0) := by
  have h := zer64b_row (w.alloc (.cells zer64b 5)) v L
  rw [alloc_size] at h
  exact h

set_option maxHeartbeats 8000000 in
set_option maxRecDepth 100000 in
theorem refKeyed_ok (K M : List Nat) (hK : ∀ x ∈ K, x ≤ 255) (hM : ∀ x ∈ M, x ≤ 255) (hKl : K.length ≤ 1000000) (hMl : M.length ≤ 900000) (w : World) : Calls Tryd.prog 20 #[.string (strB K), .string (strB M)] w fun e w' => e = .returned (.string (strB (hmac K M))) ∧ Hid (Q w w') := by
  obtain ⟨n, hn⟩ : ∃ n, n = K.length := ⟨_, rfl⟩
  have hsz : (strB K).size = n := by rw [strB_size, hn]
  have HN := Lib.hid hn
  have HK := Lib.hid hK
  have HM := Lib.hid hM
  have HML := Lib.hid hMl
  rw [← hn] at hKl
  clear hn hK hM hMl
  go_enter Tryd.func20, Tryd.ntmps20
  go_upto_if 10 with fail
  go_cut [0] (fun kv wx => kv = .string (strB (keyL K)) ∧ Hid (Q w wx))
  case first =>
    by_cases hn64 : n ≤ 64
    · have t : decide ((64 : Int) < (n : Int)) = false := by rw [decide_eq_false_iff_not]; omega
      have HKL : Hid (keyL K = K) := if_pos (by rw [← HN.out]; exact hn64)
      go_wp2_with fail
      go_meet
      exact ⟨by rw [HKL.out], Q.refl _⟩
    · have t : decide ((64 : Int) < (n : Int)) = true := by rw [decide_eq_true_iff]; omega
      have HKL : Hid (keyL K = sha K) := if_neg (by rw [← HN.out]; exact hn64)
      go_wp2_with (go_at_call 15; (with_reducible refine (refOf_ok K HK.out (by rw [← HN.out]; exact hKl) _).mono ?_); rintro e w2 ⟨rfl, H2⟩)
      go_meet
      exact ⟨by rw [HKL.out], H2.out⟩
  case rest =>
    obtain ⟨rfl, hq⟩ := hcut
    have HQ0 := hq
    clear hq
    have HBL := Lib.hid (keyL_byte HK.out)
    have HLL := Lib.hid (keyL_len K)
    have HMK : Hid (sha (padB 92 (keyL K) ++ sha (padB 54 (keyL K) ++ M)) = hmac K M) := rfl
    generalize keyL K = L at *
    clear hsz
    go_upto_region 3 with fail
    go_cut [5, 6] (fun a b wx => Hid (∃ ga gb, a = .slice (some ⟨ga, 0, none⟩) 64 64 ∧ b = .slice (some ⟨gb, 0, none⟩) 64 64 ∧ ga ≠ gb ∧ wx.rowIs ga 5 64 (padG 54 L 0) ∧ wx.rowIs gb 5 64 (padG 92 L 0) ∧ Q w wx ∧ w.heap.size ≤ ga ∧ w.heap.size ≤ gb))
    case first =>
      have hmk := make64
      go_region
      all_goals
        go_wp2_with fail
        go_meet
      · exact ⟨_, _, rfl, rfl, by omega, (Ext.of_alloc _ _).row (zer64b_row wc 54 L), zer64b_row2 wc 92 L, ((HQ0.out.alloc _).alloc _).drew, HQ0.out.size, Nat.le_succ_of_le HQ0.out.size⟩
      · exact ⟨_, _, rfl, rfl, by omega, zer64b_row2 wc 54 L, (Ext.of_alloc _ _).row (zer64b_row wc 92 L), ((HQ0.out.alloc _).alloc _).drew, Nat.le_succ_of_le HQ0.out.size, HQ0.out.size⟩
    case rest =>
      obtain ⟨ga, gb, rfl, rfl, hne, hra, hrb, hqc, hga, hgb⟩ := hcut.out
      have hne' : gb ≠ ga := fun h => hne h.symm
      have H0 : Hid (Q w wc ∧ wc.rowIs ga 5 64 (padG 54 L 0) ∧ wc.rowIs gb 5 64 (padG 92 L 0)) := ⟨hqc, hra, hrb⟩
      clear hcut hra hrb hqc HQ0
      obtain ⟨n1, hn1⟩ : ∃ n1, n1 = L.length := ⟨_, rfl⟩
      have hsz : (strB L).size = n1 := by rw [strB_size, hn1]
      have HN1 := Lib.hid hn1
      have hn64 : n1 ≤ 64 := by have := HLL.out; omega
      clear hn1
      go_wp2_with fail
      go_loopw [7] (fun i wr => ∃ k : Nat, k ≤ 64 ∧ i = .int .i64 k ∧ Hid (Q w wr ∧ wr.rowIs ga 5 64 (padG 54 L k) ∧ wr.rowIs gb 5 64 (padG 92 L k))) (fun i _ => 64 - (intOf i).toNat)
      case atStart => exact ⟨0, by omega, rfl, H0.out⟩
      case round =>
        obtain ⟨k, hk, rfl, HW⟩ := hrel
        by_cases hk64 : k < 64
        · have ca := HW.out.2.1.cell (i := k) hk64
          have cb := HW.out.2.2.cell (i := k) hk64
          have fa := HW.out.2.1.frozen k
          have fb := HW.out.2.2.frozen k
          rw [padG, if_neg (by omega)] at ca cb
          unfold B8 at ca cb
          have hx := getD_byte HBL.out k
          have x54 := (xor8 hx (show 54 ≤ 255 by omega)).1
          have x92 := (xor8 hx (show 92 ≤ 255 by omega)).1
          have HXA : Hid (Value.int .u8 (bits .xor .u8 ((L.getD k 0 : Nat) : Int) 54) = B8 (L.getD k 0 ^^^ 54)) := congrArg _ x54
          have HXB : Hid (Value.int .u8 (bits .xor .u8 ((L.getD k 0 : Nat) : Int) 92) = B8 (L.getD k 0 ^^^ 92)) := congrArg _ x92
          clear x54 x92
          by_cases hkn : k < n1
          · have hidx := run_index_strB (P := Tryd.prog) 9 Tryd.underlying9 L HBL.out .i64 k (by rw [← HN1.out]; exact hkn)
            obtain ⟨x, hx'⟩ : ∃ x, x = L.getD k 0 := ⟨_, rfl⟩
            rw [← hx'] at hidx hx
            have HXK := Lib.hid hx'
            clear hx'
            go_wp2_with fail
            go_region
            go_wp2_with fail
            go_region
            go_wp2_with fail
            go_roundw
            case rel => exact ⟨k + 1, by omega, by go_num, (((Put.of_setCell _ _ _).q ((Put.of_setCell _ _ _).q ((Put.of_setCell _ _ _).q ((Put.of_setCell _ _ _).q HW.out.1 hga) hgb) hga) hgb).drew).drew, ((((HW.out.2.1.set k _).setOther (a := ⟨gb, k, none⟩) hne _).set k _).setOther (a := ⟨gb, k, none⟩) hne _).congr (fun i _ => padG_eq (by rw [HXK.out]; exact HXA.out) i), ((((HW.out.2.2.setOther (a := ⟨ga, k, none⟩) hne' _).set k _).setOther (a := ⟨ga, k, none⟩) hne' _).set k _).congr (fun i _ => padG_eq (by rw [HXK.out]; exact HXB.out) i)⟩
            case measure => simp [intOf]; omega
          · have hx0 : L.getD k 0 = 0 := by rw [List.getD_eq_getElem?_getD, List.getElem?_eq_none (by rw [← HN1.out]; omega)]; rfl
            have HXA' : Hid (Value.int .u8 (bits .xor .u8 0 54) = B8 (L.getD k 0 ^^^ 54)) := by have h := HXA.out; rw [hx0] at h ⊢; exact h
            have HXB' : Hid (Value.int .u8 (bits .xor .u8 0 92) = B8 (L.getD k 0 ^^^ 92)) := by have h := HXB.out; rw [hx0] at h ⊢; exact h
            clear hx0
            go_wp2_with fail
            go_region
            go_wp2_with fail
            go_roundw
            case rel => exact ⟨k + 1, by omega, by go_num, ((Put.of_setCell _ _ _).q ((Put.of_setCell _ _ _).q HW.out.1 hga) hgb).drew, ((HW.out.2.1.set k _).setOther (a := ⟨gb, k, none⟩) hne _).congr (fun i _ => padG_eq1 HXA'.out i), ((HW.out.2.2.setOther (a := ⟨ga, k, none⟩) hne' _).set k _).congr (fun i _ => padG_eq1 HXB'.out i)⟩
            case measure => simp [intOf]; omega
        · have hk' : k = 64 := by omega
          rw [hk'] at HW
          have HRA : Hid (wr.rowIs ga 5 64 (arrF (padB 54 L))) := HW.out.2.1.congr fun i hi => padG_end 54 L hi
          have HRB : Hid (wr.rowIs gb 5 64 (arrF (padB 92 L))) := HW.out.2.2.congr fun i hi => padG_end 92 L hi
          have HQR : Hid (Q w wr) := HW.out.1
          clear HW H0 hk' hsz
          have HCV : Hid (∀ w', Q wr w' → (convert 22 9 (.slice (some ⟨gb, 0, none⟩) 64 64)).run Tryd.prog w' = .ok (.string (strB (padB 92 L))) w' ∧ (convert 22 9 (.slice (some ⟨ga, 0, none⟩) 64 64)).run Tryd.prog w' = .ok (.string (strB (padB 54 L))) w') := fun w' hq =>
            ⟨run_convert_sees w' _ _ _ Tryd.underlying22 Tryd.underlying5 Tryd.underlying9 (fun _ => True) _ 64 64 _ (padB_len _ _) (sees_arr (row_q hq HRB.out) (padB_len _ _) trivial),
             run_convert_sees w' _ _ _ Tryd.underlying22 Tryd.underlying5 Tryd.underlying9 (fun _ => True) _ 64 64 _ (padB_len _ _) (sees_arr (row_q hq HRA.out) (padB_len _ _) trivial)⟩
          have a1 := run_add_strB (P := Tryd.prog) (padB 54 L) M (by rw [padB_len]; have := HML.out; omega)
          have a2 := run_add_strB (P := Tryd.prog) (padB 92 L) (sha (padB 54 L ++ M)) (by rw [padB_len, sha_len]; omega)
          have HF1 : Hid (∀ w', Calls Tryd.prog 15 #[.string (strB (padB 54 L ++ M))] w' fun e w'' => e = .returned (.string (strB (sha (padB 54 L ++ M)))) ∧ Hid (Q w' w'')) := fun w' => refOf_ok _ (fun x hx => by rcases List.mem_append.1 hx with h | h; exact padB_byte (by omega) HBL.out x h; exact HM.out x h) (by rw [List.length_append, padB_len]; have := HML.out; omega) w'
          have HF2 : Hid (∀ w', Calls Tryd.prog 15 #[.string (strB (padB 92 L ++ sha (padB 54 L ++ M)))] w' fun e w'' => e = .returned (.string (strB (hmac K M))) ∧ Hid (Q w' w'')) := fun w' => by rw [← HMK.out]; exact refOf_ok _ (fun x hx => by rcases List.mem_append.1 hx with h | h; exact padB_byte (by omega) HBL.out x h; exact sha_byte _ x h) (by rw [List.length_append, padB_len, sha_len]; omega) w'
          generalize padB 54 L ++ M = M1 at *
          generalize padB 92 L ++ sha M1 = M2 at *
          go_wp2_with fail
          have hQd : Hid (Q wr wr.drew) := (Q.refl wr).drew
          go_region_held3 (fun w' => (convert 22 9 (.slice (some ⟨gb, 0, none⟩) 64 64)).run Tryd.prog w' = .ok (.string (strB (padB 92 L))) w' ∧ (convert 22 9 (.slice (some ⟨ga, 0, none⟩) 64 64)).run Tryd.prog w' = .ok (.string (strB (padB 54 L))) w')
            (first
              | exact HCV.out _ hQd.out
              | exact HCV.out _ HQ5.out
              | exact HCV.out _ (HQ5.out.trans' H6.out))
            (first
              | (go_at_call 15; (with_reducible refine (HF1.out _).mono ?_); rintro e w5 ⟨rfl, H5⟩; have HQ5 : Hid (Q wr w5) := hQd.out.trans' H5.out)
              | (go_at_call 15; (with_reducible refine (HF2.out _).mono ?_); rintro e w6 ⟨rfl, H6⟩))
          go_wp2_with fail
          go_ret
          exact ⟨rfl, HQR.out.trans' (HQ5.out.trans' H6.out)⟩
end Go.Proofs.YtcdbffgmgfblkaaDoor
