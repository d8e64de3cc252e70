/- SumMixes: to its last statement. -/
import Derived.Test.YtcdbffgmgfblkaaDoorHme
import Derived.Test.YtcdbffgmgfblkaaDoorZer
import Derived.Test.YtcdbffgmgfblkaaDoorRegf
namespace Go.Proofs.YtcdbffgmgfblkaaDoor
set_option linter.unusedVariables false
set_option linter.unusedSimpArgs false
open Go.RowKit

theorem padB_zeros (v m : Nat) (K : List Nat) : padB v (K ++ List.replicate m 0) = padB v K := by
  unfold padB
  refine List.map_congr_left fun i _ => ?_
  rw [List.getD_eq_getElem?_getD, List.getD_eq_getElem?_getD]
  rcases Nat.lt_or_ge i K.length with h | h
  · rw [List.getElem?_append_left h]
  · rw [List.getElem?_append_right h, List.getElem?_eq_none h, List.getElem?_replicate]
    split <;> rfl
theorem keyL_short {K : List Nat} (h : K.length ≤ 64) : keyL K = K := if_pos h
theorem mod_cut (u z : Nat) (h1 : 1 ≤ z) (h2 : z ≤ 65) : ∃ i : Nat, (u : Int) % (z : Int) = (i : Int) ∧ wrap64 (i : Int) = (i : Int) ∧ i < z := by
  have h := Nat.mod_lt u (show z > 0 by omega)
  exact ⟨u % z, by push_cast; rfl, wrap64_small (by omega), h⟩
theorem own_empty (w : World) : (w.alloc (.cells #[] 5)).ownsRow w.heap.size 5 1 (.slice (some ⟨w.heap.size, 0, none⟩) 0 0) 0 [] :=
  World.ownsRow_lit (e := 5) (size := 1) w #[] 0 (Nat.le_refl _) (by unfold maxLen; omega) rfl
/-- What the law's helpers stand on. -/
structure Mix (w wx : World) (K L : List Nat) (s : Nat) (go_ gs gl : Nat) (B : Option Addr) (cl : Nat) : Prop where
  q : Q w wx
  out : SeesP wx (· < wx.heap.size) (some ⟨go_, 0, none⟩) ((padB 92 K).map B8)
  sum : SeesP wx (· < wx.heap.size) (some ⟨gs, 0, none⟩) ((sha (padB 54 K ++ L)).map B8)
  long : SeesP wx (· < wx.heap.size) B ((K ++ List.replicate (65 - s) 0).map B8)
  osum : SeesP wx (· < wx.heap.size) (some ⟨gl, 0, none⟩) ((sha (K ++ List.replicate (65 - s) 0)).map B8)
  cap : 65 ≤ cl
  nil : B = none → cl = 0

set_option maxHeartbeats 8000000 in
set_option maxRecDepth 100000 in
theorem sumMixes_walk (Ak : Option Addr) (nk ck s : Nat) (K : List Nat) (A : Option Addr) (n c : Nat) (L : List Nat) (cut : Int) (w : World) (hG : Glob w) (hnk : nk ≤ ck) (hck : ck ≤ 9223372036854775807) (hsd : s = min nk 64) (hlk : K.length = s) (hsk : Sees w w.heap.size Ak (K.map B8)) (hbk : ∀ x ∈ K, x ≤ 255) (hAk : Ak = none → ck = 0)
    (hnc : n ≤ c) (hcm : c ≤ 9223372036854775807) (hl : L.length = min n 3000) (hs : Sees w w.heap.size A (L.map B8)) (hb : ∀ x ∈ L, x ≤ 255) :
    Calls Tryd.prog 6 #[.slice Ak nk ck, .slice A n c, .int .i64 cut] w fun e w' => e = .returned (.bool true) ∧ Below w.heap.size w w' := by
  obtain ⟨i8, hi8, hz80, hz81, hz82⟩ := info_parts info8
  obtain ⟨m, hm⟩ : ∃ m, m = min n 3000 := ⟨_, rfl⟩
  have hby := Lib.hid (fun w => lawBytes A n c w hnc hcm)
  rw [← hm] at hl hby
  have hm3 : m ≤ 3000 := by omega
  have hmc : m ≤ c := by omega
  have hs64 : s ≤ 64 := by omega
  have hsck : s ≤ ck := by omega
  have HSD := Lib.hid hsd
  have HG := Lib.hid hG
  have HL := Lib.hid hl
  have HS := Lib.hid hs
  have HB := Lib.hid hb
  have HLK := Lib.hid hlk
  have HSK := Lib.hid hsk
  have HBK := Lib.hid hbk
  have HAK := Lib.hid hAk
  clear hG hl hs hb hm hnc hnk hlk hsk hbk hAk hsd
  go_enter Tryd.func6, Tryd.ntmps6
  go_upto_region 3 with (first
    | (go_at_call 14; (with_reducible refine (hby.out _).mono ?_); rintro e w1 ⟨rfl, rfl⟩)
    | (refine gate 21 rfl ?_; refine wpList_min2 rfl (.tmp 20) (.const (.int .i64 64)) _ rfl .i64 nk 64 s rfl rfl HSD.out ?_)
    | (refine gate 22 rfl ?_; refine wpList_slice_hi rfl 22 (.tmp 18) (.tmp 21) rfl 5 Tryd.underlying22 i8 hi8 Ak nk ck rfl .i64 s rfl hsck ?_))
  go_cut [8, 9] (fun a b wx => Hid (∃ ga gb, a = .slice (some ⟨ga, 0, none⟩) 64 64 ∧ b = .slice (some ⟨gb, 0, none⟩) 64 64 ∧ ga ≠ gb ∧ wx.rowIs ga 5 64 (padG 54 K 0) ∧ wx.rowIs gb 5 64 (padG 92 K 0) ∧ Q w wx ∧ w.heap.size ≤ ga ∧ w.heap.size ≤ gb))
  case first =>
    have hmk := make64
    go_region
    all_goals
      go_wp2_with fail
      go_meet
    · exact ⟨_, _, rfl, rfl, by omega, (Ext.of_alloc _ _).row (zer64b_row w 54 K), zer64b_row2 w 92 K, (((Q.refl w).alloc _).alloc _).drew, Nat.le_refl _, Nat.le_succ _⟩
    · exact ⟨_, _, rfl, rfl, by omega, zer64b_row2 w 54 K, (Ext.of_alloc _ _).row (zer64b_row w 92 K), (((Q.refl w).alloc _).alloc _).drew, Nat.le_succ _, Nat.le_refl _⟩
  case rest =>
    obtain ⟨ga, gb, rfl, rfl, hne, hra, hrb, hqc, hga, hgb⟩ := hcut.out
    have hne' : gb ≠ ga := fun h => hne h.symm
    have H0 : Hid (Q w wc ∧ wc.rowIs ga 5 64 (padG 54 K 0) ∧ wc.rowIs gb 5 64 (padG 92 K 0)) := ⟨hqc, hra, hrb⟩
    clear hcut hra hrb hqc
    go_wp2_with fail
    go_loopw [10] (fun i wr => ∃ k : Nat, k ≤ 64 ∧ i = .int .i64 k ∧ Hid (Q w wr ∧ wr.rowIs ga 5 64 (padG 54 K k) ∧ wr.rowIs gb 5 64 (padG 92 K k))) (fun i _ => 64 - (intOf i).toNat)
    case atStart => exact ⟨0, by omega, rfl, H0.out⟩
    case round =>
      obtain ⟨k, hk, rfl, HW⟩ := hrel
      by_cases hk64 : k < 64
      · have ca := HW.out.2.1.cell (i := k) hk64
        have cb := HW.out.2.2.cell (i := k) hk64
        have fa := HW.out.2.1.frozen k
        have fb := HW.out.2.2.frozen k
        rw [padG, if_neg (by omega)] at ca cb
        unfold B8 at ca cb
        have hx := getD_byte HBK.out k
        have HXA : Hid (Value.int .u8 (bits .xor .u8 ((K.getD k 0 : Nat) : Int) 54) = B8 (K.getD k 0 ^^^ 54)) := congrArg _ (xor8 hx (show 54 ≤ 255 by omega)).1
        have HXB : Hid (Value.int .u8 (bits .xor .u8 ((K.getD k 0 : Nat) : Int) 92) = B8 (K.getD k 0 ^^^ 92)) := congrArg _ (xor8 hx (show 92 ≤ 255 by omega)).1
        by_cases hks : k < s
        · obtain ⟨bb, oo, rfl, hbb, ck1⟩ := (HSK.out.below HW.out.1).at_ (k := k) (u := B8 (K.getD k 0)) (by rw [List.getElem?_map, List.getD_eq_getElem?_getD, List.getElem?_eq_getElem (by rw [HLK.out]; exact hks)]; rfl)
          obtain ⟨x, hx'⟩ : ∃ x, x = K.getD k 0 := ⟨_, rfl⟩
          rw [← hx'] at ck1
          have HXK := Lib.hid hx'
          clear hx' hx hbb
          unfold B8 at ck1
          go_wp2_with fail
          go_roundw
          case rel => exact ⟨k + 1, by omega, by go_num, (Put.of_setCell _ _ _).q ((Put.of_setCell _ _ _).q HW.out.1 hga) hgb, ((HW.out.2.1.set k _).setOther (a := ⟨gb, k, none⟩) hne _).congr (fun i _ => padG_eq1 (by rw [HXK.out]; exact HXA.out) i), ((HW.out.2.2.setOther (a := ⟨ga, k, none⟩) hne' _).set k _).congr (fun i _ => padG_eq1 (by rw [HXK.out]; exact HXB.out) i)⟩
          case measure => simp [intOf]; omega
        · have hx0 : K.getD k 0 = 0 := by rw [List.getD_eq_getElem?_getD, List.getElem?_eq_none (by rw [HLK.out]; omega)]; rfl
          have HXA' : Hid (Value.int .u8 (bits .xor .u8 0 54) = B8 (K.getD k 0 ^^^ 54)) := by have h := HXA.out; rw [hx0] at h ⊢; exact h
          have HXB' : Hid (Value.int .u8 (bits .xor .u8 0 92) = B8 (K.getD k 0 ^^^ 92)) := by have h := HXB.out; rw [hx0] at h ⊢; exact h
          clear hx0 hx
          go_wp2_with fail
          go_roundw
          case rel => exact ⟨k + 1, by omega, by go_num, (Put.of_setCell _ _ _).q ((Put.of_setCell _ _ _).q HW.out.1 hga) hgb, ((HW.out.2.1.set k _).setOther (a := ⟨gb, k, none⟩) hne _).congr (fun i _ => padG_eq1 HXA'.out i), ((HW.out.2.2.setOther (a := ⟨ga, k, none⟩) hne' _).set k _).congr (fun i _ => padG_eq1 HXB'.out i)⟩
          case measure => simp [intOf]; omega
      · have hk' : k = 64 := by omega
        rw [hk'] at HW
        have HRA : Hid (wr.rowIs ga 5 64 (arrF (padB 54 K))) := HW.out.2.1.congr fun i hi => padG_end 54 K hi
        have HRB : Hid (wr.rowIs gb 5 64 (arrF (padB 92 K))) := HW.out.2.2.congr fun i hi => padG_end 92 K hi
        have HQR : Hid (Q w wr) := HW.out.1
        clear HW H0 hk'
        obtain ⟨z, hz⟩ : ∃ z, z = 65 - s := ⟨_, rfl⟩
        have HZ := Lib.hid hz
        have hz1 : 1 ≤ z := by omega
        have hz65 : z ≤ 65 := by omega
        have e65 : IntKind.i64.wrap (65 - (s : Int)) = (z : Int) := by rw [IntWalk.i64_in _ (by omega)]; omega
        have u65 : IntKind.u64.wrap (z : Int) = (z : Int) := by simp [IntKind.wrap, IntKind.bits, IntKind.signed]; omega
        have d65 : ((z : Int) == 0) = false := beq_eq_false_iff_ne.2 (by omega)
        have HSZ : Hid (s + z = 65) := by show _ = _; omega
        clear hz
        obtain ⟨u1, hu1, _⟩ := wrap_u64 cut
        obtain ⟨i, g1, g2, hiz⟩ := mod_cut u1 z hz1 hz65
        have HG1 := Lib.hid g1
        have HG2 := Lib.hid g2
        clear g1 g2
        have HOF1 : Hid (Calls Tryd.prog 18 #[.slice (some ⟨wr.heap.size, 0, none⟩) 2 2] (wr.alloc (.cells #[.slice (some ⟨ga, 0, none⟩) 64 64, .slice A m c] 22)) fun e w'' => e = .returned (.agg (arrO (sha (padB 54 K ++ L)))) ∧ Hid (Q wr w'')) := by
          have hq := (Q.refl wr).alloc (.cells #[.slice (some ⟨ga, 0, none⟩) 64 64, .slice A m c] 22)
          have hsA : SeesP wr (· < wr.heap.size) A (L.map B8) := SeesP.on HS.out HQR.out
          have h := of_any (some ⟨wr.heap.size, 0, none⟩) 2 2 ([(.slice (some ⟨ga, 0, none⟩) 64 64, padB 54 K)] ++ [(.slice A m c, L)]) _ (HG.out.q (HQR.out.trans' hq)) (new1 wr _ _) (((part_all (sees_arr HRA.out (padB_len _ _) HRA.out.lt) (padB_len _ _) (padB_byte (by omega) HBK.out)).append (part_all hsA HL.out HB.out)).on hq) rfl (by simp [partsL, padB_len, HL.out]; omega) (by omega)
          simp only [partsL, List.cons_append, List.nil_append, List.flatMap_cons, List.flatMap_nil, List.append_nil] at h
          exact h.mono fun e w'' h => ⟨h.1, hq.trans' h.2.out⟩
        have HLONG : Hid (([] ++ K.map B8) ++ List.replicate z (.int .u8 0) = (K ++ List.replicate z 0).map B8) := by show _ = _; rw [List.nil_append, List.map_append, List.map_replicate]; rfl
        have HLL : Hid ((K ++ List.replicate z 0).length = 65) := by show _ = _; rw [List.length_append, List.length_replicate, HLK.out]; exact HSZ.out
        have HBL : Hid (∀ x ∈ K ++ List.replicate z 0, x ≤ 255) := fun x hx => by
          rcases List.mem_append.1 hx with h | h
          · exact HBK.out x h
          · rw [(List.mem_replicate.1 h).2]; omega
        have HOF2a : Hid (∀ (w6 : World) bs B6 c6, w6.ownsRow bs 5 1 (.slice B6 65 c6) 65 (([] ++ K.map B8) ++ List.replicate z (.int .u8 0)) → Q wr w6 → Calls Tryd.prog 18 #[.slice (some ⟨w6.heap.size, 0, none⟩) 1 1] (w6.alloc (.cells #[.slice B6 65 c6] 22)) fun e w'' => e = .returned (.agg (arrO (sha (K ++ List.replicate z 0)))) ∧ Hid (Q w6 w'')) := fun w6 bs B6 c6 ho hq6 => by
          have hq := (Q.refl w6).alloc (.cells #[.slice B6 65 c6] 22)
          have hs6 : SeesP w6 (· < w6.heap.size) B6 ((K ++ List.replicate z 0).map B8) := by rw [← HLONG.out]; exact (sees_own ho).more fun _ hb => hb.2
          have h := of_any (some ⟨w6.heap.size, 0, none⟩) 1 1 [(.slice B6 65 c6, K ++ List.replicate z 0)] _ (HG.out.q ((HQR.out.trans' hq6).trans' hq)) (new1 w6 _ _) ((part_all hs6 HLL.out HBL.out).on hq) rfl (by simp only [partsL, List.flatMap_cons, List.flatMap_nil, List.append_nil, HLL.out]; omega) (by omega)
          simp only [partsL, List.flatMap_cons, List.flatMap_nil, List.append_nil] at h
          exact h.mono fun e w'' h => ⟨h.1, hq.trans' h.2.out⟩
        go_wp2_with (first
          | (go_at_call 18; (with_reducible refine HOF1.out.mono ?_); rintro e w2 ⟨rfl, H2⟩)
          | (refine gate 12 rfl ?_; go_loud (refine wpList_alloc_row rfl 28 rfl _ (zero32 _) 32 _ rfl zer32_get ?_; intro w3 hr3 hx3; have H3 := Lib.hid (And.intro hr3 hx3); clear hr3 hx3))
          | (refine wpList_store_all rfl 28 (.tmp 12) (.tmp 50) rfl w2.heap.size rfl _ rfl 32 info32b _ (arrO_agg _) (fun i _ => rfl) 28 _ H3.out.1 ?_; intro w4 hr4 hp4; have H4 := Lib.hid (And.intro hr4 hp4); clear hr4 hp4; have HQ4 : Hid (Q wr w4) := H4.out.2.q (H3.out.2.q H2.out) H2.out.size)
          | (refine gate 53 rfl ?_; go_loud (refine wpList_append_row rfl (.tmp 51) (.tmp 52) 22 rfl w4.heap.size 5 i8 _ 1 Tryd.underlying22 hi8 hz80 hz81 hz82 rfl _ 0 [] rfl (own_empty w4) (· < w.heap.size) Ak s ck (K.map B8) rfl HAK.out (by rw [List.length_map, HLK.out]) (HSK.out.below ((HQR.out.trans' HQ4.out).alloc _)) (B8_one _) (by unfold maxLen; omega) (by omega) (((Q.refl w4).alloc _).size) ?_; intro v5 w5 hown5 hgr5; have H5 := Lib.hid (And.intro hown5 (hgr5.q ((Q.refl w4).alloc _) (own_empty w4))); clear hown5 hgr5))
          | (at_builtin; refine gate 57 rfl ?_; go_loud (refine wpList_append_zeros rfl (.tmp 53) (.tmp 56) 22 3 rfl w4.heap.size 5 i8 (.int .u8 0) 1 .i64 .i64 Tryd.underlying22 Tryd.underlying3 hi8 hz80 hz81 hz82 rfl rfl _ _ _ rfl H5.out.1 z rfl (by simp only [maxLen]; omega) (by omega) H5.out.2.size ?_; intro v6 w6 hown6 hg6; have H6 := Lib.hid (And.intro hown6 (Q.grown H5.out.2 H5.out.1 hg6)); clear hown6 hg6; obtain ⟨B6, c6, rfl⟩ := own_form H6.out.1; rw [show 0 + s + z = 65 by have := HSZ.out; omega] at H6 ⊢; have HOF2 := Lib.hid (HOF2a.out w6 _ B6 c6 H6.out.1 (HQ4.out.trans' H6.out.2))))
          | (go_at_call 18; (with_reducible refine HOF2.out.mono ?_); rintro e w7 ⟨rfl, H7⟩)
          | (refine gate 14 rfl ?_; go_loud (refine wpList_alloc_row rfl 28 rfl _ (zero32 _) 32 _ rfl zer32_get ?_; intro w8 hr8 hx8; have H8 := Lib.hid (And.intro hr8 hx8); clear hr8 hx8))
          | (refine wpList_store_all rfl 28 (.tmp 14) (.tmp 60) rfl w7.heap.size rfl _ rfl 32 info32b _ (arrO_agg _) (fun i _ => rfl) 28 _ H8.out.1 ?_; intro w9 hr9 hp9; have H9 := Lib.hid (And.intro hr9 hp9); clear hr9 hp9))
        rw [HG1.out, HG2.out]
        have HQ9r : Hid (Q wr w9) := H9.out.2.q (H8.out.2.q ((HQ4.out.trans' H6.out.2).trans' H7.out)) ((HQ4.out.trans' H6.out.2).trans' H7.out).size
        have HQ9 : Hid (Q w w9) := HQR.out.trans' HQ9r.out
        have H69 : Q w6 w9 := H9.out.2.q (H8.out.2.q H7.out) H7.out.size
        have H49 : Q w4 w9 := H6.out.2.trans' H69
        have RO : Hid (SeesP w9 (· < w9.heap.size) (some ⟨gb, 0, none⟩) ((padB 92 K).map B8)) := SeesP.on (sees_arr HRB.out (padB_len _ _) HRB.out.lt) HQ9r.out
        have RS : Hid (SeesP w9 (· < w9.heap.size) (some ⟨w2.heap.size, 0, none⟩) ((sha (padB 54 K ++ L)).map B8)) := SeesP.on (sees_arr H4.out.1 (sha_len _) H4.out.1.lt) H49
        have RL : Hid (SeesP w9 (· < w9.heap.size) B6 ((K ++ List.replicate z 0).map B8)) := SeesP.on (by rw [← HLONG.out]; exact (sees_own H6.out.1).more fun _ hb => hb.2) H69
        have RQ : Hid (SeesP w9 (· < w9.heap.size) (some ⟨w7.heap.size, 0, none⟩) ((sha (K ++ List.replicate z 0)).map B8)) := sees_arr H9.out.1 (sha_len _) H9.out.1.lt
        have RB : Hid (SeesP w9 (· < w9.heap.size) A (L.map B8)) := SeesP.on HS.out HQ9.out
        have RK : Hid (SeesP w9 (· < w9.heap.size) Ak (K.map B8)) := SeesP.on HSK.out HQ9.out
        have hc6 : 65 ≤ c6 := (own_cap H6.out.1).1
        have HN6 : Hid (B6 = none → c6 = 0) := own_nil H6.out.1
        obtain ⟨y, hy⟩ : ∃ y, y = s + i := ⟨_, rfl⟩
        have HY := Lib.hid hy
        have hy64 : y ≤ 64 := by have := HSZ.out; omega
        have ey : IntKind.i64.wrap ((s : Int) + (i : Int)) = (y : Int) := by rw [IntWalk.i64_in _ (by omega)]; omega
        have HY2 : Hid (y = s + i ∧ i ≤ z) := ⟨hy, Nat.le_of_lt hiz⟩
        clear hy
        have s1 := run_cut_hi (P := Tryd.prog) 22 5 Tryd.underlying22 i8 hi8 B6 65 c6 .i64 y (by omega)
        have HSUM := Lib.hid (sums_ok w9.drew (HG.out.q (HQ9.out.drew)))
        have HSUM : Hid (Calls Tryd.prog 16 #[] w9.drew fun e w' => e = .returned (.bool true) ∧ Hid (Q w9 w')) := HSUM.out.mono fun e w' h => ⟨h.1, ((Q.refl w9).drew).trans' h.2.out⟩
        have HKE : Hid (keyL K = K) := keyL_short (by rw [HLK.out]; exact hs64)
        have HC1 : Hid (∀ w' g, SeesP w' (· < w'.heap.size) (some ⟨g, 0, none⟩) [.slice (some ⟨gb, 0, none⟩) 64 64, .slice (some ⟨w2.heap.size, 0, none⟩) 32 32] → Q w9 w' → Calls Tryd.prog 18 #[.slice (some ⟨g, 0, none⟩) 2 2] w' fun e w'' => e = .returned (.agg (arrO (hmac K L))) ∧ Hid (Q w' w'')) := fun w' g hs hq => by
          have h := of_any (some ⟨g, 0, none⟩) 2 2 ([(Value.slice (some ⟨gb, 0, none⟩) 64 64, padB 92 K)] ++ [(Value.slice (some ⟨w2.heap.size, 0, none⟩) 32 32, sha (padB 54 K ++ L))]) w' (HG.out.q (HQ9.out.trans' hq)) hs (((part_all RO.out (padB_len _ _) (padB_byte (by omega) HBK.out)).append (part_all RS.out (sha_len _) (sha_byte _))).on hq) rfl (by simp [partsL, padB_len, sha_len]) (by omega)
          simp only [partsL, List.cons_append, List.nil_append, List.flatMap_cons, List.flatMap_nil, List.append_nil] at h
          unfold hmac
          rw [HKE.out]
          exact h
        have HKY : Hid (∀ (Ax : Option Addr) (nx cx : Nat) (X : List Nat), SeesP w9 (· < w9.heap.size) Ax (X.map B8) → X.length = nx → (∀ x ∈ X, x ≤ 255) → (Ax = none → cx = 0) → nx ≤ 1000 → ∀ w' g, SeesP w' (· < w'.heap.size) (some ⟨g, 0, none⟩) [.slice A m c] → Q w9 w' → Calls Tryd.prog 21 #[.slice Ax nx cx, .slice (some ⟨g, 0, none⟩) 1 1] w' fun e w'' => e = .returned (.agg (arrO (hmac X L))) ∧ Hid (Q w' w'')) := fun Ax nx cx X h1 h2 h3 h4 h5 w' g hs hq => by
          have h := keyed_any Ax nx cx X (some ⟨g, 0, none⟩) 1 1 [(.slice A m c, L)] w' (HG.out.q (HQ9.out.trans' hq)) h2 (h1.on hq) h3 h4 hs (fun h => by cases h) ((part_all RB.out HL.out HB.out).on hq) rfl (by omega) (by simp only [partsL, List.flatMap_cons, List.flatMap_nil, List.append_nil, HL.out]; omega) (by omega)
          simp only [partsL, List.flatMap_cons, List.flatMap_nil, List.append_nil] at h
          exact h
        have HC2 := Lib.hid (HKY.out Ak s ck K RK.out HLK.out HBK.out HAK.out (by omega))
        have HC3 := Lib.hid (HKY.out B6 65 c6 (K ++ List.replicate z 0) RL.out HLL.out HBL.out HN6.out (by omega))
        have HC4 := Lib.hid (HKY.out (some ⟨w7.heap.size, 0, none⟩) 32 32 (sha (K ++ List.replicate z 0)) RQ.out (sha_len _) (sha_byte _) (fun h => by cases h) (by omega))
        have HXL : Hid (hmac (sha (K ++ List.replicate z 0)) L = hmac (K ++ List.replicate z 0) L) := by
          show _ = _
          unfold hmac
          rw [keyL_short (K := sha (K ++ List.replicate z 0)) (by rw [sha_len]; omega), show keyL (K ++ List.replicate z 0) = sha (K ++ List.replicate z 0) from if_neg (by rw [HLL.out]; omega)]
        have HTK : Hid ((K ++ List.replicate z 0).take y = K ++ List.replicate i 0) := by
          show _ = _
          rw [HY2.out.1, ← HLK.out, List.take_length_add_append, List.take_replicate, Nat.min_eq_left HY2.out.2]
        have HC5 := Lib.hid (HKY.out B6 y c6 (K ++ List.replicate i 0) (by rw [← HTK.out, List.map_take]; exact RL.out.take y) (by rw [List.length_append, List.length_replicate, HLK.out]; exact HY2.out.1.symm) (fun x hx => by
          rw [← HTK.out] at hx
          exact HBL.out x (List.mem_of_mem_take hx)) HN6.out (by omega))
        have HXS : Hid (hmac (K ++ List.replicate i 0) L = hmac K L) := by
          show _ = _
          unfold hmac
          rw [HKE.out, keyL_short (K := K ++ List.replicate i 0) (by rw [List.length_append, List.length_replicate, HLK.out]; have := HY2.out.1; omega), padB_zeros, padB_zeros]
        rw [HXL.out] at HC4
        rw [HXS.out] at HC5
        have HC6 := HC2
        have k32 := fun g => run_arr_all (P := Tryd.prog) 28 5 32 Tryd.underlying28 i8 hi8 hz81 g 0
        have l1 : (hmac K L).length = 32 := sha_len _
        have l2 : (hmac (K ++ List.replicate z 0) L).length = 32 := sha_len _
        generalize hmac K L = X1 at *
        generalize hmac (K ++ List.replicate z 0) L = X2 at *
        clear HKY RO RS RL RQ RB RK HTK HXL HXS HKE HN6 H2 H3 H4 H5 H6 H7 H8 H9 H69 H49 HQ4 HOF1 HOF2a HOF2 HLONG HLL HBL HRA HRB HSK HAK HBK HLK HS HB HL hby HY HY2 HG1 HG2 HSD
        refine wp_region_facts (by kernel_rfl) (by kernel_rfl) (factsOf [.is (.bool true), .is (.bool true), .is (.slice (some ⟨gb, 0, none⟩) 64 64), .is (.slice (some ⟨w2.heap.size, 0, none⟩) 32 32), .row [.slice (some ⟨gb, 0, none⟩) 64 64, .slice (some ⟨w2.heap.size, 0, none⟩) 32 32], .is (.agg (arrO X1)), .is (.slice Ak s ck), .is (.slice A m c), .row [.slice A m c], .is (.agg (arrO X1)), .is (.bool true), .is (.bool true), .is (.bool true), .is (.slice B6 65 c6), .is (.slice A m c), .row [.slice A m c], .is (.agg (arrO X2)), .is (.slice (some ⟨w7.heap.size, 0, none⟩) 32 32), .is (.slice A m c), .row [.slice A m c], .is (.agg (arrO X2)), .is (.bool true), .is (.bool true), .is (.bool true), .is (.slice B6 65 c6), .is (.slice Ak s ck), .is (.int .i64 (s : Int)), .is (.int .i64 (i : Int)), .is (.int .i64 (y : Int)), .is (.slice B6 y c6), .is (.slice A m c), .row [.slice A m c], .is (.agg (arrO X1)), .is (.slice Ak s ck), .is (.slice A m c), .row [.slice A m c], .is (.agg (arrO X1)), .is (.bool true), .is (.bool true), .is (.bool true)]) (factsOf_stays _) ?_ ?_
        · refine ⟨?_, ?_, ?_, ?_, ?_, ?_, ?_, ?_, ?_, ?_, ?_, ?_, ?_, ?_, ?_, ?_, ?_, ?_, ?_, ?_, ?_, ?_, ?_, ?_, ?_, ?_, ?_, ?_, ?_, ?_, ?_, ?_, ?_, ?_, ?_, ?_, ?_, ?_, ?_, ?_, trivial⟩
          · intro ax wx hq hfr hd
            exact .inl ⟨wanted_free rfl, OpDoes.call (f := 16) (args := #[]) (w' := wx) (by unfold execOp; simp [go_sem, Act.eval]) ((sums_ok wx (HG.out.q (HQ9.out.trans' hq))).mono fun e w2 h => ⟨_, h.1, h.2.out, rfl⟩)⟩
          · intro ax wx hq hfr hd
            have f69 : ax.tmps.getD 69 undef = .bool true := hd 0 (by kernel_rfl) _ _ rfl rfl
            have e69 := (getD_form _ _).symm.trans f69
            exact .inl ⟨wanted_free rfl, OpDoes.run (v := .bool true) (w' := wx) (by unfold execOp; simp only [Act.eval, f69, Sem.run_pure]) ⟨Below.refl _ _, rfl⟩⟩
          · intro ax wx hq hfr hd
            have f9 : ax.tmps.getD 9 undef = .slice (some ⟨gb, 0, none⟩) 64 64 := (hfr 9 (noDst_spec (by kernel_rfl))).trans rfl
            have e9 := (getD_form _ _).symm.trans f9
            exact .inl ⟨wanted_on rfl rfl rfl (hd 1 (by kernel_rfl) _ _ rfl rfl), OpDoes.run (v := .slice (some ⟨gb, 0, none⟩) 64 64) (w' := wx) (by unfold execOp; simp only [Act.eval, f9, Sem.run_pure]) ⟨Below.refl _ _, rfl⟩⟩
          · intro ax wx hq hfr hd
            have f12 : ax.tmps.getD 12 undef = .pointer (some ⟨w2.heap.size, 0, none⟩) := (hfr 12 (noDst_spec (by kernel_rfl))).trans rfl
            have e12 := (getD_form _ _).symm.trans f12
            exact .inl ⟨wanted_on rfl rfl rfl (hd 1 (by kernel_rfl) _ _ rfl rfl), OpDoes.run (v := .slice (some ⟨w2.heap.size, 0, none⟩) 32 32) (w' := wx) (by unfold execOp; simp [go_sem, Act.eval, e12, k32]) ⟨Below.refl _ _, rfl⟩⟩
          · intro ax wx hq hfr hd
            have f71 : ax.tmps.getD 71 undef = .slice (some ⟨gb, 0, none⟩) 64 64 := hd 2 (by kernel_rfl) _ _ rfl rfl
            have e71 := (getD_form _ _).symm.trans f71
            have f72 : ax.tmps.getD 72 undef = .slice (some ⟨w2.heap.size, 0, none⟩) 32 32 := hd 3 (by kernel_rfl) _ _ rfl rfl
            have e72 := (getD_form _ _).symm.trans f72
            exact .inl ⟨wanted_on rfl rfl rfl (hd 1 (by kernel_rfl) _ _ rfl rfl), OpDoes.run (v := .slice (some ⟨wx.heap.size, 0, none⟩) 2 2) (w' := wx.alloc (.cells #[.slice (some ⟨gb, 0, none⟩) 64 64, .slice (some ⟨w2.heap.size, 0, none⟩) 32 32] 22)) (by unfold execOp; simp [go_sem, Act.eval, e71, e72]) ⟨(Q.refl wx).alloc _, ⟨_, rfl, new1 wx [.slice (some ⟨gb, 0, none⟩) 64 64, .slice (some ⟨w2.heap.size, 0, none⟩) 32 32] _⟩⟩⟩
          · intro ax wx hq hfr hd
            obtain ⟨g73, f73, r73⟩ : ∃ g, ax.tmps.getD 73 undef = .slice (some ⟨g, 0, none⟩) 2 2 ∧ SeesP wx (· < wx.heap.size) (some ⟨g, 0, none⟩) [.slice (some ⟨gb, 0, none⟩) 64 64, .slice (some ⟨w2.heap.size, 0, none⟩) 32 32] := hd 4 (by kernel_rfl) _ _ rfl rfl
            have e73 := (getD_form _ _).symm.trans f73
            exact .inl ⟨wanted_on rfl rfl rfl (hd 1 (by kernel_rfl) _ _ rfl rfl), OpDoes.call (f := 18) (args := #[.slice (some ⟨g73, 0, none⟩) 2 2]) (w' := wx) (by unfold execOp; simp [go_sem, Act.eval, e73]) ((HC1.out wx _ r73 hq).mono fun e w2 h => ⟨_, h.1, h.2.out, rfl⟩)⟩
          · intro ax wx hq hfr hd
            have f7 : ax.tmps.getD 7 undef = .slice Ak s ck := (hfr 7 (noDst_spec (by kernel_rfl))).trans rfl
            have e7 := (getD_form _ _).symm.trans f7
            exact .inl ⟨wanted_on rfl rfl rfl (hd 1 (by kernel_rfl) _ _ rfl rfl), OpDoes.run (v := .slice Ak s ck) (w' := wx) (by unfold execOp; simp only [Act.eval, f7, Sem.run_pure]) ⟨Below.refl _ _, rfl⟩⟩
          · intro ax wx hq hfr hd
            have f1 : ax.tmps.getD 1 undef = .slice A m c := (hfr 1 (noDst_spec (by kernel_rfl))).trans rfl
            have e1 := (getD_form _ _).symm.trans f1
            exact .inl ⟨wanted_on rfl rfl rfl (hd 1 (by kernel_rfl) _ _ rfl rfl), OpDoes.run (v := .slice A m c) (w' := wx) (by unfold execOp; simp only [Act.eval, f1, Sem.run_pure]) ⟨Below.refl _ _, rfl⟩⟩
          · intro ax wx hq hfr hd
            have f76 : ax.tmps.getD 76 undef = .slice A m c := hd 7 (by kernel_rfl) _ _ rfl rfl
            have e76 := (getD_form _ _).symm.trans f76
            exact .inl ⟨wanted_on rfl rfl rfl (hd 1 (by kernel_rfl) _ _ rfl rfl), OpDoes.run (v := .slice (some ⟨wx.heap.size, 0, none⟩) 1 1) (w' := wx.alloc (.cells #[.slice A m c] 22)) (by unfold execOp; simp [go_sem, Act.eval, e76]) ⟨(Q.refl wx).alloc _, ⟨_, rfl, new1 wx [.slice A m c] _⟩⟩⟩
          · intro ax wx hq hfr hd
            have f75 : ax.tmps.getD 75 undef = .slice Ak s ck := hd 6 (by kernel_rfl) _ _ rfl rfl
            have e75 := (getD_form _ _).symm.trans f75
            obtain ⟨g77, f77, r77⟩ : ∃ g, ax.tmps.getD 77 undef = .slice (some ⟨g, 0, none⟩) 1 1 ∧ SeesP wx (· < wx.heap.size) (some ⟨g, 0, none⟩) [.slice A m c] := hd 8 (by kernel_rfl) _ _ rfl rfl
            have e77 := (getD_form _ _).symm.trans f77
            exact .inl ⟨wanted_on rfl rfl rfl (hd 1 (by kernel_rfl) _ _ rfl rfl), OpDoes.call (f := 21) (args := #[.slice Ak s ck, .slice (some ⟨g77, 0, none⟩) 1 1]) (w' := wx) (by unfold execOp; simp [go_sem, Act.eval, e75, e77]) ((HC2.out wx _ r77 hq).mono fun e w2 h => ⟨_, h.1, h.2.out, rfl⟩)⟩
          · intro ax wx hq hfr hd
            have f74 : ax.tmps.getD 74 undef = .agg (arrO X1) := hd 5 (by kernel_rfl) _ _ rfl rfl
            have e74 := (getD_form _ _).symm.trans f74
            have f78 : ax.tmps.getD 78 undef = .agg (arrO X1) := hd 9 (by kernel_rfl) _ _ rfl rfl
            have e78 := (getD_form _ _).symm.trans f78
            exact .inl ⟨wanted_on rfl rfl rfl (hd 1 (by kernel_rfl) _ _ rfl rfl), OpDoes.run (v := .bool true) (w' := wx) (run_eq_same _ X1 l1 _ _ _ _ rfl f74 f78 _) ⟨Below.refl _ _, rfl⟩⟩
          · intro ax wx hq hfr hd
            have f70 : ax.tmps.getD 70 undef = .bool true := hd 1 (by kernel_rfl) _ _ rfl rfl
            have e70 := (getD_form _ _).symm.trans f70
            have f79 : ax.tmps.getD 79 undef = .bool true := hd 10 (by kernel_rfl) _ _ rfl rfl
            have e79 := (getD_form _ _).symm.trans f79
            exact .inl ⟨wanted_free rfl, OpDoes.run (v := .bool true) (w' := wx) (by unfold execOp; simp [go_sem, Act.eval, e70, e79]) ⟨Below.refl _ _, rfl⟩⟩
          · intro ax wx hq hfr hd
            have f80 : ax.tmps.getD 80 undef = .bool true := hd 11 (by kernel_rfl) _ _ rfl rfl
            have e80 := (getD_form _ _).symm.trans f80
            exact .inl ⟨wanted_free rfl, OpDoes.run (v := .bool true) (w' := wx) (by unfold execOp; simp only [Act.eval, f80, Sem.run_pure]) ⟨Below.refl _ _, rfl⟩⟩
          · intro ax wx hq hfr hd
            have f13 : ax.tmps.getD 13 undef = .slice B6 65 c6 := (hfr 13 (noDst_spec (by kernel_rfl))).trans rfl
            have e13 := (getD_form _ _).symm.trans f13
            exact .inl ⟨wanted_on rfl rfl rfl (hd 12 (by kernel_rfl) _ _ rfl rfl), OpDoes.run (v := .slice B6 65 c6) (w' := wx) (by unfold execOp; simp only [Act.eval, f13, Sem.run_pure]) ⟨Below.refl _ _, rfl⟩⟩
          · intro ax wx hq hfr hd
            have f1 : ax.tmps.getD 1 undef = .slice A m c := (hfr 1 (noDst_spec (by kernel_rfl))).trans rfl
            have e1 := (getD_form _ _).symm.trans f1
            exact .inl ⟨wanted_on rfl rfl rfl (hd 12 (by kernel_rfl) _ _ rfl rfl), OpDoes.run (v := .slice A m c) (w' := wx) (by unfold execOp; simp only [Act.eval, f1, Sem.run_pure]) ⟨Below.refl _ _, rfl⟩⟩
          · intro ax wx hq hfr hd
            have f83 : ax.tmps.getD 83 undef = .slice A m c := hd 14 (by kernel_rfl) _ _ rfl rfl
            have e83 := (getD_form _ _).symm.trans f83
            exact .inl ⟨wanted_on rfl rfl rfl (hd 12 (by kernel_rfl) _ _ rfl rfl), OpDoes.run (v := .slice (some ⟨wx.heap.size, 0, none⟩) 1 1) (w' := wx.alloc (.cells #[.slice A m c] 22)) (by unfold execOp; simp [go_sem, Act.eval, e83]) ⟨(Q.refl wx).alloc _, ⟨_, rfl, new1 wx [.slice A m c] _⟩⟩⟩
          · intro ax wx hq hfr hd
            have f82 : ax.tmps.getD 82 undef = .slice B6 65 c6 := hd 13 (by kernel_rfl) _ _ rfl rfl
            have e82 := (getD_form _ _).symm.trans f82
            obtain ⟨g84, f84, r84⟩ : ∃ g, ax.tmps.getD 84 undef = .slice (some ⟨g, 0, none⟩) 1 1 ∧ SeesP wx (· < wx.heap.size) (some ⟨g, 0, none⟩) [.slice A m c] := hd 15 (by kernel_rfl) _ _ rfl rfl
            have e84 := (getD_form _ _).symm.trans f84
            exact .inl ⟨wanted_on rfl rfl rfl (hd 12 (by kernel_rfl) _ _ rfl rfl), OpDoes.call (f := 21) (args := #[.slice B6 65 c6, .slice (some ⟨g84, 0, none⟩) 1 1]) (w' := wx) (by unfold execOp; simp [go_sem, Act.eval, e82, e84]) ((HC3.out wx _ r84 hq).mono fun e w2 h => ⟨_, h.1, h.2.out, rfl⟩)⟩
          · intro ax wx hq hfr hd
            have f14 : ax.tmps.getD 14 undef = .pointer (some ⟨w7.heap.size, 0, none⟩) := (hfr 14 (noDst_spec (by kernel_rfl))).trans rfl
            have e14 := (getD_form _ _).symm.trans f14
            exact .inl ⟨wanted_on rfl rfl rfl (hd 12 (by kernel_rfl) _ _ rfl rfl), OpDoes.run (v := .slice (some ⟨w7.heap.size, 0, none⟩) 32 32) (w' := wx) (by unfold execOp; simp [go_sem, Act.eval, e14, k32]) ⟨Below.refl _ _, rfl⟩⟩
          · intro ax wx hq hfr hd
            have f1 : ax.tmps.getD 1 undef = .slice A m c := (hfr 1 (noDst_spec (by kernel_rfl))).trans rfl
            have e1 := (getD_form _ _).symm.trans f1
            exact .inl ⟨wanted_on rfl rfl rfl (hd 12 (by kernel_rfl) _ _ rfl rfl), OpDoes.run (v := .slice A m c) (w' := wx) (by unfold execOp; simp only [Act.eval, f1, Sem.run_pure]) ⟨Below.refl _ _, rfl⟩⟩
          · intro ax wx hq hfr hd
            have f87 : ax.tmps.getD 87 undef = .slice A m c := hd 18 (by kernel_rfl) _ _ rfl rfl
            have e87 := (getD_form _ _).symm.trans f87
            exact .inl ⟨wanted_on rfl rfl rfl (hd 12 (by kernel_rfl) _ _ rfl rfl), OpDoes.run (v := .slice (some ⟨wx.heap.size, 0, none⟩) 1 1) (w' := wx.alloc (.cells #[.slice A m c] 22)) (by unfold execOp; simp [go_sem, Act.eval, e87]) ⟨(Q.refl wx).alloc _, ⟨_, rfl, new1 wx [.slice A m c] _⟩⟩⟩
          · intro ax wx hq hfr hd
            have f86 : ax.tmps.getD 86 undef = .slice (some ⟨w7.heap.size, 0, none⟩) 32 32 := hd 17 (by kernel_rfl) _ _ rfl rfl
            have e86 := (getD_form _ _).symm.trans f86
            obtain ⟨g88, f88, r88⟩ : ∃ g, ax.tmps.getD 88 undef = .slice (some ⟨g, 0, none⟩) 1 1 ∧ SeesP wx (· < wx.heap.size) (some ⟨g, 0, none⟩) [.slice A m c] := hd 19 (by kernel_rfl) _ _ rfl rfl
            have e88 := (getD_form _ _).symm.trans f88
            exact .inl ⟨wanted_on rfl rfl rfl (hd 12 (by kernel_rfl) _ _ rfl rfl), OpDoes.call (f := 21) (args := #[.slice (some ⟨w7.heap.size, 0, none⟩) 32 32, .slice (some ⟨g88, 0, none⟩) 1 1]) (w' := wx) (by unfold execOp; simp [go_sem, Act.eval, e86, e88]) ((HC4.out wx _ r88 hq).mono fun e w2 h => ⟨_, h.1, h.2.out, rfl⟩)⟩
          · intro ax wx hq hfr hd
            have f85 : ax.tmps.getD 85 undef = .agg (arrO X2) := hd 16 (by kernel_rfl) _ _ rfl rfl
            have e85 := (getD_form _ _).symm.trans f85
            have f89 : ax.tmps.getD 89 undef = .agg (arrO X2) := hd 20 (by kernel_rfl) _ _ rfl rfl
            have e89 := (getD_form _ _).symm.trans f89
            exact .inl ⟨wanted_on rfl rfl rfl (hd 12 (by kernel_rfl) _ _ rfl rfl), OpDoes.run (v := .bool true) (w' := wx) (run_eq_same _ X2 l2 _ _ _ _ rfl f85 f89 _) ⟨Below.refl _ _, rfl⟩⟩
          · intro ax wx hq hfr hd
            have f81 : ax.tmps.getD 81 undef = .bool true := hd 12 (by kernel_rfl) _ _ rfl rfl
            have e81 := (getD_form _ _).symm.trans f81
            have f90 : ax.tmps.getD 90 undef = .bool true := hd 21 (by kernel_rfl) _ _ rfl rfl
            have e90 := (getD_form _ _).symm.trans f90
            exact .inl ⟨wanted_free rfl, OpDoes.run (v := .bool true) (w' := wx) (by unfold execOp; simp [go_sem, Act.eval, e81, e90]) ⟨Below.refl _ _, rfl⟩⟩
          · intro ax wx hq hfr hd
            have f91 : ax.tmps.getD 91 undef = .bool true := hd 22 (by kernel_rfl) _ _ rfl rfl
            have e91 := (getD_form _ _).symm.trans f91
            exact .inl ⟨wanted_free rfl, OpDoes.run (v := .bool true) (w' := wx) (by unfold execOp; simp only [Act.eval, f91, Sem.run_pure]) ⟨Below.refl _ _, rfl⟩⟩
          · intro ax wx hq hfr hd
            have f13 : ax.tmps.getD 13 undef = .slice B6 65 c6 := (hfr 13 (noDst_spec (by kernel_rfl))).trans rfl
            have e13 := (getD_form _ _).symm.trans f13
            exact .inl ⟨wanted_on rfl rfl rfl (hd 23 (by kernel_rfl) _ _ rfl rfl), OpDoes.run (v := .slice B6 65 c6) (w' := wx) (by unfold execOp; simp only [Act.eval, f13, Sem.run_pure]) ⟨Below.refl _ _, rfl⟩⟩
          · intro ax wx hq hfr hd
            have f7 : ax.tmps.getD 7 undef = .slice Ak s ck := (hfr 7 (noDst_spec (by kernel_rfl))).trans rfl
            have e7 := (getD_form _ _).symm.trans f7
            exact .inl ⟨wanted_on rfl rfl rfl (hd 23 (by kernel_rfl) _ _ rfl rfl), OpDoes.run (v := .slice Ak s ck) (w' := wx) (by unfold execOp; simp only [Act.eval, f7, Sem.run_pure]) ⟨Below.refl _ _, rfl⟩⟩
          · intro ax wx hq hfr hd
            have f94 : ax.tmps.getD 94 undef = .slice Ak s ck := hd 25 (by kernel_rfl) _ _ rfl rfl
            have e94 := (getD_form _ _).symm.trans f94
            exact .inl ⟨wanted_on rfl rfl rfl (hd 23 (by kernel_rfl) _ _ rfl rfl), OpDoes.run (v := .int .i64 (s : Int)) (w' := wx) (by unfold execOp; simp [go_sem, Act.eval, e94]) ⟨Below.refl _ _, rfl⟩⟩
          · intro ax wx hq hfr hd
            have f15 : ax.tmps.getD 15 undef = .int .i64 (i : Int) := (hfr 15 (noDst_spec (by kernel_rfl))).trans rfl
            have e15 := (getD_form _ _).symm.trans f15
            exact .inl ⟨wanted_on rfl rfl rfl (hd 23 (by kernel_rfl) _ _ rfl rfl), OpDoes.run (v := .int .i64 (i : Int)) (w' := wx) (by unfold execOp; simp only [Act.eval, f15, Sem.run_pure]) ⟨Below.refl _ _, rfl⟩⟩
          · intro ax wx hq hfr hd
            have f95 : ax.tmps.getD 95 undef = .int .i64 (s : Int) := hd 26 (by kernel_rfl) _ _ rfl rfl
            have e95 := (getD_form _ _).symm.trans f95
            have f96 : ax.tmps.getD 96 undef = .int .i64 (i : Int) := hd 27 (by kernel_rfl) _ _ rfl rfl
            have e96 := (getD_form _ _).symm.trans f96
            exact .inl ⟨wanted_on rfl rfl rfl (hd 23 (by kernel_rfl) _ _ rfl rfl), OpDoes.run (v := .int .i64 (y : Int)) (w' := wx) (by unfold execOp; simp [go_sem, Act.eval, e95, e96, ey]) ⟨Below.refl _ _, rfl⟩⟩
          · intro ax wx hq hfr hd
            have f93 : ax.tmps.getD 93 undef = .slice B6 65 c6 := hd 24 (by kernel_rfl) _ _ rfl rfl
            have e93 := (getD_form _ _).symm.trans f93
            have f97 : ax.tmps.getD 97 undef = .int .i64 (y : Int) := hd 28 (by kernel_rfl) _ _ rfl rfl
            have e97 := (getD_form _ _).symm.trans f97
            exact .inl ⟨wanted_on rfl rfl rfl (hd 23 (by kernel_rfl) _ _ rfl rfl), OpDoes.run (v := .slice B6 y c6) (w' := wx) (by unfold execOp; simp [go_sem, Act.eval, e93, e97, s1]) ⟨Below.refl _ _, rfl⟩⟩
          · intro ax wx hq hfr hd
            have f1 : ax.tmps.getD 1 undef = .slice A m c := (hfr 1 (noDst_spec (by kernel_rfl))).trans rfl
            have e1 := (getD_form _ _).symm.trans f1
            exact .inl ⟨wanted_on rfl rfl rfl (hd 23 (by kernel_rfl) _ _ rfl rfl), OpDoes.run (v := .slice A m c) (w' := wx) (by unfold execOp; simp only [Act.eval, f1, Sem.run_pure]) ⟨Below.refl _ _, rfl⟩⟩
          · intro ax wx hq hfr hd
            have f99 : ax.tmps.getD 99 undef = .slice A m c := hd 30 (by kernel_rfl) _ _ rfl rfl
            have e99 := (getD_form _ _).symm.trans f99
            exact .inl ⟨wanted_on rfl rfl rfl (hd 23 (by kernel_rfl) _ _ rfl rfl), OpDoes.run (v := .slice (some ⟨wx.heap.size, 0, none⟩) 1 1) (w' := wx.alloc (.cells #[.slice A m c] 22)) (by unfold execOp; simp [go_sem, Act.eval, e99]) ⟨(Q.refl wx).alloc _, ⟨_, rfl, new1 wx [.slice A m c] _⟩⟩⟩
          · intro ax wx hq hfr hd
            have f98 : ax.tmps.getD 98 undef = .slice B6 y c6 := hd 29 (by kernel_rfl) _ _ rfl rfl
            have e98 := (getD_form _ _).symm.trans f98
            obtain ⟨g100, f100, r100⟩ : ∃ g, ax.tmps.getD 100 undef = .slice (some ⟨g, 0, none⟩) 1 1 ∧ SeesP wx (· < wx.heap.size) (some ⟨g, 0, none⟩) [.slice A m c] := hd 31 (by kernel_rfl) _ _ rfl rfl
            have e100 := (getD_form _ _).symm.trans f100
            exact .inl ⟨wanted_on rfl rfl rfl (hd 23 (by kernel_rfl) _ _ rfl rfl), OpDoes.call (f := 21) (args := #[.slice B6 y c6, .slice (some ⟨g100, 0, none⟩) 1 1]) (w' := wx) (by unfold execOp; simp [go_sem, Act.eval, e98, e100]) ((HC5.out wx _ r100 hq).mono fun e w2 h => ⟨_, h.1, h.2.out, rfl⟩)⟩
          · intro ax wx hq hfr hd
            have f7 : ax.tmps.getD 7 undef = .slice Ak s ck := (hfr 7 (noDst_spec (by kernel_rfl))).trans rfl
            have e7 := (getD_form _ _).symm.trans f7
            exact .inl ⟨wanted_on rfl rfl rfl (hd 23 (by kernel_rfl) _ _ rfl rfl), OpDoes.run (v := .slice Ak s ck) (w' := wx) (by unfold execOp; simp only [Act.eval, f7, Sem.run_pure]) ⟨Below.refl _ _, rfl⟩⟩
          · intro ax wx hq hfr hd
            have f1 : ax.tmps.getD 1 undef = .slice A m c := (hfr 1 (noDst_spec (by kernel_rfl))).trans rfl
            have e1 := (getD_form _ _).symm.trans f1
            exact .inl ⟨wanted_on rfl rfl rfl (hd 23 (by kernel_rfl) _ _ rfl rfl), OpDoes.run (v := .slice A m c) (w' := wx) (by unfold execOp; simp only [Act.eval, f1, Sem.run_pure]) ⟨Below.refl _ _, rfl⟩⟩
          · intro ax wx hq hfr hd
            have f103 : ax.tmps.getD 103 undef = .slice A m c := hd 34 (by kernel_rfl) _ _ rfl rfl
            have e103 := (getD_form _ _).symm.trans f103
            exact .inl ⟨wanted_on rfl rfl rfl (hd 23 (by kernel_rfl) _ _ rfl rfl), OpDoes.run (v := .slice (some ⟨wx.heap.size, 0, none⟩) 1 1) (w' := wx.alloc (.cells #[.slice A m c] 22)) (by unfold execOp; simp [go_sem, Act.eval, e103]) ⟨(Q.refl wx).alloc _, ⟨_, rfl, new1 wx [.slice A m c] _⟩⟩⟩
          · intro ax wx hq hfr hd
            have f102 : ax.tmps.getD 102 undef = .slice Ak s ck := hd 33 (by kernel_rfl) _ _ rfl rfl
            have e102 := (getD_form _ _).symm.trans f102
            obtain ⟨g104, f104, r104⟩ : ∃ g, ax.tmps.getD 104 undef = .slice (some ⟨g, 0, none⟩) 1 1 ∧ SeesP wx (· < wx.heap.size) (some ⟨g, 0, none⟩) [.slice A m c] := hd 35 (by kernel_rfl) _ _ rfl rfl
            have e104 := (getD_form _ _).symm.trans f104
            exact .inl ⟨wanted_on rfl rfl rfl (hd 23 (by kernel_rfl) _ _ rfl rfl), OpDoes.call (f := 21) (args := #[.slice Ak s ck, .slice (some ⟨g104, 0, none⟩) 1 1]) (w' := wx) (by unfold execOp; simp [go_sem, Act.eval, e102, e104]) ((HC2.out wx _ r104 hq).mono fun e w2 h => ⟨_, h.1, h.2.out, rfl⟩)⟩
          · intro ax wx hq hfr hd
            have f101 : ax.tmps.getD 101 undef = .agg (arrO X1) := hd 32 (by kernel_rfl) _ _ rfl rfl
            have e101 := (getD_form _ _).symm.trans f101
            have f105 : ax.tmps.getD 105 undef = .agg (arrO X1) := hd 36 (by kernel_rfl) _ _ rfl rfl
            have e105 := (getD_form _ _).symm.trans f105
            exact .inl ⟨wanted_on rfl rfl rfl (hd 23 (by kernel_rfl) _ _ rfl rfl), OpDoes.run (v := .bool true) (w' := wx) (run_eq_same _ X1 l1 _ _ _ _ rfl f101 f105 _) ⟨Below.refl _ _, rfl⟩⟩
          · intro ax wx hq hfr hd
            have f92 : ax.tmps.getD 92 undef = .bool true := hd 23 (by kernel_rfl) _ _ rfl rfl
            have e92 := (getD_form _ _).symm.trans f92
            have f106 : ax.tmps.getD 106 undef = .bool true := hd 37 (by kernel_rfl) _ _ rfl rfl
            have e106 := (getD_form _ _).symm.trans f106
            exact .inl ⟨wanted_free rfl, OpDoes.run (v := .bool true) (w' := wx) (by unfold execOp; simp [go_sem, Act.eval, e92, e106]) ⟨Below.refl _ _, rfl⟩⟩
          · intro ax wx hq hfr hd
            have f107 : ax.tmps.getD 107 undef = .bool true := hd 38 (by kernel_rfl) _ _ rfl rfl
            have e107 := (getD_form _ _).symm.trans f107
            exact .inl ⟨wanted_free rfl, OpDoes.run (v := .bool true) (w' := wx) (by unfold execOp; simp only [Act.eval, f107, Sem.run_pure]) ⟨Below.refl _ _, rfl⟩⟩
        · intro ax wx inv
          have f6 : ax.tmps.getD 6 undef = .bool true := inv.fact 39 _ _ rfl rfl (by simp)

          have hdf : ax.defers = [] := inv.defers
          have HQX : Hid (Q w9 wx) := inv.q
          clear inv
          go_wp2_with fail
          refine bodyPost_ret (results_tmp rfl _ _ _) hdf ⟨?_, HQ9.out.trans' HQX.out⟩
          rw [f6]
theorem sumMixes_true (Ak : Option Addr) (nk ck : Nat) (zk : List Int) (A : Option Addr) (n c : Nat) (zs : List Int) (cut : Int) (_ : (Lit.int .i64 cut).wf = true) (w : World) (wk : IsRow .u8 w Ak nk ck zk) (w0 : IsRow .u8 w A n c zs) (hG : Glob w) :
    Calls Tryd.prog 6 #[.slice Ak nk ck, .slice A n c, .int .i64 cut] w fun e w' => e = .returned (.bool true) ∧ Below w.heap.size w w' := by
  obtain ⟨h1, h2, h3, h4, h5, h6⟩ := row8 w0 (min n 3000) (by omega)
  obtain ⟨k1, k2, k3, k4, k5, k6⟩ := row8 wk (min nk 64) (by omega)
  exact sumMixes_walk Ak nk ck _ _ A n c _ cut w hG k4 k5 rfl k1 k2 k3 k6 h4 h5 h1 h2 h3
end Go.Proofs.YtcdbffgmgfblkaaDoor
