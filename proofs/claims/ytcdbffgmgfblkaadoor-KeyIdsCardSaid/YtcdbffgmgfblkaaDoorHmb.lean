/- The walk through sum's Keyed. -/
import Derived.Test.YtcdbffgmgfblkaaDoorHma
import Derived.Deep.DeepCutAuto
namespace Go.Proofs.YtcdbffgmgfblkaaDoor
set_option linter.unusedVariables false
set_option linter.unusedSimpArgs false
open Go.RowKit

def zer64b : Array Value := (List.replicate 64 (.int .u8 0)).toArray
theorem zero64b (w : World) : (zeroValue 82).run Tryd.prog w = .ok (.agg zer64b) w := by kernel_rfl
theorem info64b : (Tryd.prog.info? 82).map (·.size) = some 64 := by kernel_rfl
theorem info8b : (Tryd.prog.info? 5).map (·.size) = some 1 := by kernel_rfl
theorem zer64b_get (i : Nat) (h : i < 64) : zer64b[i]? = some (arrF [] i) := by
  unfold zer64b
  rw [List.getElem?_toArray, List.getElem?_replicate, if_pos h]; rfl
/-- Where the key lies, cut to a block. -/
def KeyAt (w0 w : World) (K : List Nat) (v : Value) : Prop := ∃ A n c, v = .slice A n c ∧ n ≤ 64 ∧ (keyL K).length = n ∧ (A = none → c = 0) ∧ SeesP w (· < w.heap.size) A ((keyL K).map B8) ∧ Q w0 w ∧ w.rowIs w0.heap.size 28 32 (arrF []) ∧ w0.heap.size < w.heap.size

theorem padF_next {w : World} {g v k : Nat} {t : TypeId} {L : List Nat} (h : w.rowIs g t 64 (padF v L k)) (hk : k < 64) : (w.setCell ⟨g, k, none⟩ (.int .u8 ((L.getD k 0 ^^^ v : Nat) : Int))).rowIs g t 64 (padF v L (k + 1)) :=
  (h.set k _).congr fun i hi => by
    unfold padF
    rcases Nat.lt_trichotomy i k with h | h | h
    · rw [if_neg (by omega), if_pos h, if_pos (by omega)]
    · subst h; rw [if_pos rfl, if_pos (by omega)]; rfl
    · rw [if_neg (by omega), if_neg (by omega), if_neg (by omega)]

set_option maxHeartbeats 8000000 in
set_option maxRecDepth 100000 in
theorem keyed_ok (A : Option Addr) (n c : Nat) (K : List Nat) (A2 : Option Addr) (n2 c2 : Nat) (parts : List (Value × List Nat)) (ok : Nat → Prop) (w : World) (hG : Glob w) (hK : K.length = n) (hsK : SeesP w ok A (K.map B8)) (hbK : ∀ x ∈ K, x ≤ 255) (hAc : A = none → c = 0) (hn : parts.length = n2) (hs : SeesP w ok A2 (parts.map (·.1))) (hA2 : A2 = none → c2 = 0) (hp : PartsB w ok parts) (hok : ∀ b, ok b → b < w.heap.size) (hKl : n ≤ 1000000) (hlen : (partsL parts).length ≤ 1000000000) (hn64 : n2 ≤ 900000) :
    Calls Tryd.prog 21 #[.slice A n c, .slice A2 n2 c2] w fun e w' => ∃ V, e = .returned V ∧ Hid (AggIs V 32 (arrF (hmac K (partsL parts))) ∧ Q w w') := by
  obtain ⟨i8, hi8, hz80, hz81, hz82⟩ := info_parts info8
  obtain ⟨ir, hir, hzr0, hzr1, hzr2⟩ := info_parts infoRow8
  have HG := Lib.hid hG
  have HK := Lib.hid hK
  have HSK := Lib.hid hsK
  have HBK := Lib.hid hbK
  have HAC := Lib.hid hAc
  have HN := Lib.hid hn
  have HS := Lib.hid hs
  have HA2 := Lib.hid hA2
  have HP := Lib.hid hp
  have HOK := Lib.hid hok
  have HLEN := Lib.hid hlen
  clear hG hK hsK hbK hAc hn hs hA2 hp hok hlen
  go_enter Tryd.func21, Tryd.ntmps21
  go_upto_if 12 with (refine gate 4 rfl ?_; go_loud (refine wpList_alloc_row rfl 28 rfl _ (zero32 _) 32 _ rfl zer32_get ?_; intro w1 hr1 hx1; have H1 := Lib.hid (And.intro hr1 hx1); clear hr1 hx1))
  go_cut [0] (fun kv wx => Hid (KeyAt w wx K kv))
  case first =>
    have HQ1 : Hid (Q w w1) := H1.out.2.q (Q.refl _)
    have HW1 : Hid (w1.heap.size = w.heap.size + 1) := H1.out.2.size
    by_cases hn64k : n ≤ 64
    · have t : decide ((64 : Int) < (n : Int)) = false := by rw [decide_eq_false_iff_not]; omega
      have HKL : Hid (keyL K = K) := if_pos (by rw [HK.out]; exact hn64k)
      go_wp2_with fail
      go_meet
      exact ⟨A, n, c, rfl, hn64k, by rw [HKL.out, HK.out], HAC.out, by rw [HKL.out]; exact (HSK.out.belowP HOK.out HQ1.out).more (fun b hb => by have := HOK.out b hb; have := HW1.out; omega), HQ1.out, H1.out.1, by have := HW1.out; omega⟩
    · have t : decide ((64 : Int) < (n : Int)) = true := by rw [decide_eq_true_iff]; omega
      have HKL : Hid (keyL K = sha K) := if_neg (by rw [HK.out]; exact hn64k)
      have HO1 : Hid (Calls Tryd.prog 18 #[.slice (some ⟨w1.heap.size, 0, none⟩) 1 1] (w1.alloc (.cells #[.slice A n c] 22)) fun e w' => ∃ V, e = .returned V ∧ Hid (AggIs V 32 (arrF (sha K)) ∧ Q w1 w')) := by
        have hq1 := HQ1.out.alloc (.cells #[.slice A n c] 22)
        refine (of_ok (some ⟨w1.heap.size, 0, none⟩) 1 1 [(.slice A n c, K)] (· < w1.heap.size + 1) _ (HG.out.q hq1) rfl (SeesP.new w1 [.slice A n c] _) (fun z hz => ?_) (fun b hb => by rw [alloc_size]; exact hb) ?_ (by omega)).mono ?_
        · simp only [List.mem_cons, List.not_mem_nil, or_false] at hz
          subst hz
          exact ⟨_, _, _, rfl, HK.out, (HSK.out.belowP HOK.out hq1).more (fun b hb => by have := HOK.out b hb; have := HW1.out; omega), HBK.out⟩
        · simp [partsL, HK.out]; omega
        · rintro e w' ⟨V, rfl, h⟩
          exact ⟨V, rfl, by simpa [partsL] using h.out.1, ((Q.refl w1).alloc _).trans' h.out.2⟩
      go_wp2_with (first
        | (go_at_call 18; (with_reducible refine HO1.out.mono ?_); rintro e w2 ⟨V, rfl, H2⟩)
        | (refine gate 5 rfl ?_; go_loud (refine wpList_alloc_row rfl 28 rfl _ (zero32 _) 32 _ rfl zer32_get ?_; intro w3 hr3 hx3; have H3 := Lib.hid (And.intro hr3 hx3); clear hr3 hx3))
        | (refine wpList_store_all rfl 28 (.tmp 5) (.tmp 15) rfl w2.heap.size rfl V rfl 32 info32b (arrF (sha K)) H2.out.1 (fun i _ => rfl) 28 _ H3.out.1 ?_; intro w4 hr4 hp4; have H4 := Lib.hid (And.intro hr4 hp4); clear hr4 hp4))
      go_meet
      have h12 := H2.out.2.size
      have hw1 := HW1.out
      have h3 := H3.out.2.size
      have h4 := H4.out.2.size
      exact ⟨_, 32, 32, rfl, by omega, by rw [HKL.out, sha_len], (fun h => by cases h), by rw [HKL.out]; exact sees_arr H4.out.1 (sha_len K) (by omega), H4.out.2.q (H3.out.2.q (HQ1.out.trans' H2.out.2)) (by omega), H4.out.2.row (H3.out.2.row (row_q H2.out.2 H1.out.1)) (by omega), by omega⟩
  case rest =>
    obtain ⟨A1, n1, c1, rfl, hn1, hkl, hA1, hs1, hqc, hrc, hwc⟩ := hcut.out
    have HKL := Lib.hid hkl
    have HA1 := Lib.hid hA1
    have HS1 := Lib.hid hs1
    have HQC := Lib.hid hqc
    have HRC := Lib.hid hrc
    have HBL := Lib.hid (keyL_byte HBK.out)
    clear hcut hkl hA1 hs1 hqc hrc H1 HSK HAC HK HBK
    generalize hL : keyL K = L at *
    go_wp2_with (first
      | (refine gate 6 rfl ?_; go_loud (refine wpList_alloc_row rfl 82 rfl _ (zero64b _) 64 _ rfl zer64b_get ?_; intro w2 hr2 hx2; have H2 := Lib.hid (And.intro hr2 hx2); clear hr2 hx2))
      | (refine gate 7 rfl ?_; go_loud (refine wpList_alloc_row rfl 82 rfl _ (zero64b _) 64 _ rfl zer64b_get ?_; intro w3 hr3 hx3; have H3 := Lib.hid (And.intro hr3 hx3); clear hr3 hx3))
      | (refine gate 19 rfl ?_; go_loud (refine wpList_copy_arr rfl (.tmp 17) (.tmp 18) 22 22 rfl 5 Tryd.underlying22 info8b wc.heap.size 64 rfl A1 n1 c1 rfl hn1 82 _ (H3.out.2.row H2.out.1) (· < wc.heap.size) L HKL.out (HS1.out.below (H3.out.2.q (H2.out.2.q (Q.refl _)))) HA1.out ?_; intro w4 hr4 hp4; have H4 := Lib.hid (And.intro hr4 hp4); clear hr4 hp4))
      | (refine gate 22 rfl ?_; go_loud (refine wpList_copy_arr rfl (.tmp 20) (.tmp 21) 22 22 rfl 5 Tryd.underlying22 info8b w2.heap.size 64 rfl A1 n1 c1 rfl hn1 82 _ (H4.out.2.row H3.out.1 (by have := H2.out.2.size; omega)) (· < wc.heap.size) L HKL.out (HS1.out.below (H4.out.2.q (H3.out.2.q (H2.out.2.q (Q.refl _))) (Nat.le_refl _))) HA1.out ?_; intro w5 hr5 hp5; have H5 := Lib.hid (And.intro hr5 hp5); clear hr5 hp5)))
    have hg2 : Hid (w2.heap.size = wc.heap.size + 1) := H2.out.2.size
    have hne : wc.heap.size ≠ w2.heap.size := by have := hg2.out; omega
    have hne' : w2.heap.size ≠ wc.heap.size := by have := hg2.out; omega
    have H0 : Hid (Q wc w5 ∧ w5.rowIs wc.heap.size 82 64 (padF 54 L 0) ∧ w5.rowIs w2.heap.size 82 64 (padF 92 L 0)) := by
      have hz : ∀ (v i : Nat), i < 64 → (if i < n1 then arrF L i else arrF [] i) = padF v L 0 i := fun v i _ => by
        have h0 : padF v L 0 i = B8 (L.getD i 0) := by unfold padF; rw [if_neg (by omega)]
        rw [h0]
        unfold arrF
        split
        · rfl
        · have h1 : L.getD i 0 = 0 := by rw [List.getD_eq_getElem?_getD, List.getElem?_eq_none (by rw [HKL.out]; omega)]; rfl
          rw [h1]; rfl
      exact ⟨H5.out.2.q (H4.out.2.q (H3.out.2.q (H2.out.2.q (Q.refl _))) (Nat.le_refl _)) (by have := hg2.out; omega), (H5.out.2.row H4.out.1 hne).congr (hz 54), H5.out.1.congr (hz 92)⟩
    clear H2 H3 H4 H5
    go_loopw [23] (fun i wr => ∃ k : Nat, k ≤ 64 ∧ i = .int .i64 k ∧ Hid (Q wc wr ∧ wr.rowIs wc.heap.size 82 64 (padF 54 L k) ∧ wr.rowIs w2.heap.size 82 64 (padF 92 L k))) (fun i _ => 64 - (intOf i).toNat)
    case atStart => exact ⟨0, by omega, rfl, H0.out⟩
    case round =>
      obtain ⟨k, hk, rfl, HW⟩ := hrel
      by_cases hk64 : k < 64
      · have ca := HW.out.2.1.cell (i := k) hk64
        have cb := HW.out.2.2.cell (i := k) hk64
        have fa := HW.out.2.1.frozen k
        have fb := HW.out.2.2.frozen k
        rw [padF, if_neg (by omega)] at ca cb
        have hx := getD_byte HBL.out k
        have x54 := (xor8 hx (show 54 ≤ 255 by omega)).1
        have x92 := (xor8 hx (show 92 ≤ 255 by omega)).1
        have HNA := Lib.hid (padF_next HW.out.2.1 hk64)
        have HNB := Lib.hid (fun (w' : World) (h : w'.rowIs w2.heap.size 82 64 (padF 92 L k)) => padF_next h hk64)
        unfold B8 at ca cb
        generalize L.getD k 0 = x at ca cb x54 x92 hx HNA HNB
        rw [← x54] at HNA
        rw [← x92] at HNB
        clear x54 x92
        go_wp2_with fail
        go_roundw
        case rel => exact ⟨k + 1, by omega, by go_num, (Put.of_setCell _ _ _).q ((Put.of_setCell _ _ _).q HW.out.1 (Nat.le_refl _)) (by have := hg2.out; show _ ≤ w2.heap.size; omega), World.rowIs.setOther HNA.out hne _, HNB.out _ (HW.out.2.2.setOther hne' _)⟩
        case measure => simp [intOf]; omega
      · have hk' : k = 64 := by omega
        rw [hk'] at HW
        have HRA : Hid (wr.rowIs wc.heap.size 82 64 (arrF (padB 54 L))) := HW.out.2.1.congr fun i hi => padF_end 54 L hi
        have HRB : Hid (wr.rowIs w2.heap.size 82 64 (arrF (padB 92 L))) := HW.out.2.2.congr fun i hi => padF_end 92 L hi
        have HQR : Hid (Q wc wr) := HW.out.1
        clear HW H0 hk'
        have HQW : Hid (Q w wr) := HQC.out.trans' HQR.out
        obtain ⟨wa, hwa⟩ : ∃ wa, wa = wr.alloc (.cells #[.slice (some ⟨wc.heap.size, 0, none⟩) 64 64] 22) := ⟨_, rfl⟩
        have HWA := Lib.hid hwa
        have HQA : Hid (Q wr wa) := by rw [hwa]; exact (Q.refl wr).alloc _
        have HOA : Hid (wa.ownsRow wr.heap.size 22 1 (.slice (some ⟨wr.heap.size, 0, none⟩) 1 1) 1 [.slice (some ⟨wc.heap.size, 0, none⟩) 64 64]) := by rw [hwa]; exact World.ownsRow_lit wr #[.slice (some ⟨wc.heap.size, 0, none⟩) 64 64] 1 (Nat.le_refl _) (by unfold maxLen; omega) rfl
        have HPO : Hid (∀ u ∈ parts.map (·.1), u.oneCell' = true) := by
          intro u hu
          obtain ⟨z, hz, rfl⟩ := List.mem_map.1 hu
          obtain ⟨B, m, k', h1, _⟩ := HP.out z hz
          rw [h1]; rfl
        clear hwa
        have HPL : Hid (partsL ((.slice (some ⟨wc.heap.size, 0, none⟩) 64 64, padB 54 L) :: parts) = padB 54 L ++ partsL parts) := rfl
        have HOF : Hid (∀ A3 c3 (w3 : World), w3.ownsRow wr.heap.size 22 1 (.slice A3 (1 + n2) c3) (1 + n2) ([.slice (some ⟨wc.heap.size, 0, none⟩) 64 64] ++ parts.map (·.1)) → Q wr w3 → Calls Tryd.prog 18 #[.slice A3 (1 + n2) c3] w3 fun e w' => ∃ V, e = .returned V ∧ Hid (AggIs V 32 (arrF (sha (padB 54 L ++ partsL parts))) ∧ Q w3 w')) := fun A3 c3 w3 ho hq => by
          have hqw := HQW.out.trans' hq
          have hsz := hq.size
          refine of_ok A3 (1 + n2) c3 ((.slice (some ⟨wc.heap.size, 0, none⟩) 64 64, padB 54 L) :: parts) (· < w3.heap.size) w3 (HG.out.q hqw) (by rw [List.length_cons, HN.out]; omega) ((sees_own ho).more (fun b hb => hb.2)) (fun z hz => ?_) (fun _ h => h) (by rw [HPL.out, List.length_append, padB_len]; have := HLEN.out; omega) (by omega)
          rcases List.mem_cons.1 hz with rfl | hz
          · exact ⟨_, _, _, rfl, padB_len _ _, sees_arr (row_q hq HRA.out) (padB_len _ _) (Nat.lt_of_lt_of_le HRA.out.lt hsz), padB_byte (by omega) HBL.out⟩
          · exact ((HP.out.belowP HOK.out hqw).more (fun b hb => Nat.lt_of_lt_of_le (HOK.out b hb) hqw.size)) z hz
        go_wp2_with (first
          | (go_at_call 18; (with_reducible refine (HOF.out A3 c3 w3 H3.out.1 H3.out.2).mono ?_); rintro e w4 ⟨V, rfl, H4⟩)
          | (refine gate 9 rfl ?_; go_loud (refine wpList_alloc_row rfl 28 rfl _ (zero32 _) 32 _ rfl zer32_get ?_; intro w5 hr5 hx5; have H5 := Lib.hid (And.intro hr5 hx5); clear hr5 hx5))
          | (refine wpList_store_all rfl 28 (.tmp 9) (.tmp 41) rfl w4.heap.size rfl V rfl 32 info32b _ H4.out.1 (fun i _ => rfl) 28 _ H5.out.1 ?_; intro w6 hr6 hp6; have H6 := Lib.hid (And.intro hr6 hp6); clear hr6 hp6)
          | (refine gate 40 rfl ?_; rw [← HWA.out]; go_loud (refine wpList_append_row rfl (.tmp 38) (.tmp 39) 31 rfl wr.heap.size 22 ir _ 24 Tryd.underlying31 hir hzr0 hzr1 hzr2 rfl _ 1 _ rfl HOA.out ok A2 n2 c2 (parts.map (·.1)) rfl HA2.out (by rw [List.length_map, HN.out]) (HS.out.belowP HOK.out (HQW.out.trans' HQA.out)) HPO.out (by unfold maxLen; omega) (by omega) HQA.out.size ?_; intro v3 w3 hown3 hgr3; obtain ⟨A3, c3, rfl⟩ := own_form hown3; have H3 := Lib.hid (And.intro hown3 (hgr3.q HQA.out HOA.out)); clear hown3 hgr3)))
        go_still_tail 2, (by kernel_rfl)
        change wpList _ _ _ _ _ w6.drew
        have hge : w4.heap.size ≤ w6.heap.size := by have := H5.out.2.size; have := H6.out.2.size; omega
        have HQ6 : Hid (Q wr w6.drew) := (H6.out.2.q (H5.out.2.q (H3.out.2.trans' H4.out.2)) (H3.out.2.trans' H4.out.2).size).drew
        have HR6 : Hid (w6.drew.rowIs w4.heap.size 28 32 (arrF (sha (padB 54 L ++ partsL parts)))) := H6.out.1
        generalize w6.drew = w7 at *
        have HOG : Hid (Calls Tryd.prog 18 #[.slice (some ⟨w7.heap.size, 0, none⟩) 2 2] (w7.alloc (.cells #[.slice (some ⟨w2.heap.size, 0, none⟩) 64 64, .slice (some ⟨w4.heap.size, 0, none⟩) 32 32] 22)) fun e w' => ∃ V, e = .returned V ∧ Hid (AggIs V 32 (arrF (sha (padB 92 L ++ sha (padB 54 L ++ partsL parts)))) ∧ Q wr w')) := by
          have hq1 := HQ6.out.alloc (.cells #[.slice (some ⟨w2.heap.size, 0, none⟩) 64 64, .slice (some ⟨w4.heap.size, 0, none⟩) 32 32] 22)
          have hsz := HQ6.out.size
          have hlt := HRB.out.lt
          have hlt6 := HR6.out.lt
          refine (of_ok (some ⟨w7.heap.size, 0, none⟩) 2 2 [(.slice (some ⟨w2.heap.size, 0, none⟩) 64 64, padB 92 L), (.slice (some ⟨w4.heap.size, 0, none⟩) 32 32, sha (padB 54 L ++ partsL parts))] (· < w7.heap.size + 1) _ (HG.out.q (HQW.out.trans' hq1)) rfl (SeesP.new w7 [.slice (some ⟨w2.heap.size, 0, none⟩) 64 64, .slice (some ⟨w4.heap.size, 0, none⟩) 32 32] _) (fun z hz => ?_) (fun b hb => by rw [alloc_size]; exact hb) ?_ (by omega)).mono ?_
          · simp only [List.mem_cons, List.not_mem_nil, or_false] at hz
            rcases hz with rfl | rfl
            · exact ⟨_, _, _, rfl, padB_len _ _, sees_arr (row_q hq1 HRB.out) (padB_len _ _) (by omega), padB_byte (by omega) HBL.out⟩
            · exact ⟨_, _, _, rfl, sha_len _, sees_arr (row_q ((Q.refl w7).alloc _) HR6.out) (sha_len _) (by omega), sha_byte _⟩
          · simp only [partsL, List.flatMap_cons, List.flatMap_nil, List.append_nil, List.length_append, padB_len, sha_len]; omega
          · rintro e w' ⟨V, rfl, h⟩
            exact ⟨V, rfl, by simpa [partsL] using h.out.1, hq1.trans' h.out.2⟩
        have HRE : Hid (∀ w', Q wr w' → w'.rowIs w.heap.size 28 32 (arrF [])) := fun w' h => row_q h (row_q HQR.out HRC.out)
        have HMK : Hid (sha (padB 92 L ++ sha (padB 54 L ++ partsL parts)) = hmac K (partsL parts)) := by show _ = _; unfold hmac; rw [hL]
        rw [HMK.out] at HOG
        go_wp2_with (first
          | (go_at_call 18; (with_reducible refine HOG.out.mono ?_); rintro e w8 ⟨V8, rfl, H8⟩)
          | (refine wpList_store_all rfl 28 (.tmp 4) (.tmp 45) rfl w.heap.size rfl V8 rfl 32 info32b _ H8.out.1 (fun i _ => rfl) 28 _ (HRE.out _ H8.out.2) ?_; intro w9 hr9 hp9; have H9 := Lib.hid (And.intro hr9 hp9); clear hr9 hp9))
        refine ret_cell rfl w.heap.size rfl _ Tryd.underlying28 rfl 32 info32b (arrF (hmac K (partsL parts))) (row_cells H9.out.1) rfl (fun v hv => ⟨v, rfl, hv, ?_⟩)
        exact H9.out.2.q (HQW.out.trans' H8.out.2) (Nat.le_refl _)
end Go.Proofs.YtcdbffgmgfblkaaDoor
