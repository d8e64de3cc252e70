/- The walk through sum's Stretch. -/
import Derived.Test.YtcdbffgmgfblkaaDoorHme
namespace Go.Proofs.YtcdbffgmgfblkaaDoor
set_option linter.unusedVariables false
set_option linter.unusedSimpArgs false
open Go.RowKit

/-- Two sums put together byte by byte. -/
def mixB (x y : List Nat) : List Nat := (List.range 32).map fun i => x.getD i 0 ^^^ y.getD i 0
/-- A word's key, so many steps far. -/
def stretch (K S : List Nat) : Nat → List Nat
  | 0 => hmac K S
  | k + 1 => mixB (stretch K S k) (hmac K (stretch K S k))
theorem mixB_len (x y : List Nat) : (mixB x y).length = 32 := by simp [mixB]
theorem hmac_len (K M : List Nat) : (hmac K M).length = 32 := sha_len _
theorem hmac_byte (K M : List Nat) : ∀ x ∈ hmac K M, x ≤ 255 := sha_byte _
theorem stretch_len (K S : List Nat) : ∀ k, (stretch K S k).length = 32
  | 0 => hmac_len _ _
  | _ + 1 => mixB_len _ _
theorem stretch_byte (K S : List Nat) : ∀ k, ∀ x ∈ stretch K S k, x ≤ 255
  | 0 => hmac_byte _ _
  | k + 1 => fun x hx => by
    obtain ⟨i, _, rfl⟩ := List.mem_map.1 hx
    exact (xor8 (getD_byte (stretch_byte K S k) i) (getD_byte (hmac_byte _ _) i)).2
/-- While it is put together. -/
def mixG (x y : List Nat) (k i : Nat) : Value := B8 (if i < k then x.getD i 0 ^^^ y.getD i 0 else x.getD i 0)
theorem mixG_end (x y : List Nat) {i : Nat} (hi : i < 32) : mixG x y 32 i = arrF (mixB x y) i := by
  unfold mixG arrF mixB
  have e : ((List.range 32).map fun i => x.getD i 0 ^^^ y.getD i 0)[i]? = some (x.getD i 0 ^^^ y.getD i 0) := by rw [List.getElem?_map, List.getElem?_range hi]; rfl
  rw [if_pos hi, show ((List.range 32).map fun i => x.getD i 0 ^^^ y.getD i 0).getD i 0 = _ from List.getD_eq_getElem?_getD, e]; rfl
theorem mixG_next {x y : List Nat} {k : Nat} {Y : Value} (hY : Y = B8 (x.getD k 0 ^^^ y.getD k 0)) (i : Nat) : (if i = k then Y else mixG x y k i) = mixG x y (k + 1) i := by
  unfold mixG
  rcases Nat.lt_trichotomy i k with h | h | h
  · rw [if_neg (by omega), if_pos h, if_pos (by omega)]
  · subst h; rw [if_pos rfl, if_pos (by omega), hY]
  · rw [if_neg (by omega), if_neg (by omega), if_neg (by omega)]

set_option maxHeartbeats 8000000 in
set_option maxRecDepth 100000 in
theorem stretch_ok (A : Option Addr) (n c : Nat) (K : List Nat) (A2 : Option Addr) (n2 c2 : Nat) (S : List Nat) (t : Int) (N : Nat) (w : World) (hG : Glob w) (hK : K.length = n) (hsK : SeesP w (· < w.heap.size) A (K.map B8)) (hbK : ∀ x ∈ K, x ≤ 255) (hAc : A = none → c = 0) (hKl : n ≤ 1000000)
    (hS : S.length = n2) (hsS : SeesP w (· < w.heap.size) A2 (S.map B8)) (hbS : ∀ x ∈ S, x ≤ 255) (hSl : n2 ≤ 1000000) (hN : (N : Int) = max (min t 100000) 0) :
    Calls Tryd.prog 22 #[.slice A n c, .slice A2 n2 c2, .int .i64 t] w fun e w' => e = .returned (.agg (arrO (stretch K S N))) ∧ Hid (Q w w') := by
  obtain ⟨i8, hi8, hz80, hz81, hz82⟩ := info_parts info8
  obtain ⟨q, hq⟩ : ∃ q, q = min t 100000 := ⟨_, rfl⟩
  have f15 : (if (100000 : Int) < t then (100000 : Int) else t) = q := by rw [hq]; split <;> omega
  have f16 : (if q < 0 then (0 : Int) else q) = (N : Int) := by rw [hN, ← hq]; split <;> omega
  have hN5 : N ≤ 100000 := by omega
  have HG := Lib.hid hG
  have HK := Lib.hid hK
  have HSK := Lib.hid hsK
  have HBK := Lib.hid hbK
  have HAC := Lib.hid hAc
  have HS := Lib.hid hS
  have HSS := Lib.hid hsS
  have HBS := Lib.hid hbS
  clear hG hK hsK hbK hAc hS hsS hbS hN hq
  have HK1 : Hid (∀ (Ax : Option Addr) (nx cx : Nat) (X : List Nat) (w1 : World), Q w w1 → SeesP w1 (· < w1.heap.size) Ax (X.map B8) → X.length = nx → (∀ x ∈ X, x ≤ 255) → nx ≤ 1000000 → Calls Tryd.prog 21 #[.slice A n c, .slice (some ⟨w1.heap.size, 0, none⟩) 1 1] (w1.alloc (.cells #[.slice Ax nx cx] 22)) fun e w'' => e = .returned (.agg (arrO (hmac K X))) ∧ Hid (Q w1 w'')) := fun Ax nx cx X w1 hq1 h1 h2 h3 h4 => by
    have hq := (Q.refl w1).alloc (.cells #[.slice Ax nx cx] 22)
    have h := keyed_any A n c K (some ⟨w1.heap.size, 0, none⟩) 1 1 [(.slice Ax nx cx, X)] _ (HG.out.q (hq1.trans' hq)) HK.out (SeesP.on HSK.out (hq1.trans' hq)) HBK.out HAC.out (new1 w1 _ _) (fun h => by cases h) ((part_all h1 h2 h3).on hq) rfl hKl (by simp only [partsL, List.flatMap_cons, List.flatMap_nil, List.append_nil]; omega) (by omega)
    simp only [partsL, List.flatMap_cons, List.flatMap_nil, List.append_nil] at h
    exact h.mono fun e w'' h => ⟨h.1, hq.trans' h.2.out⟩
  go_enter Tryd.func22, Tryd.ntmps22
  go_wp2_with (first
    | (refine gate 6 rfl ?_; go_loud (refine wpList_alloc_row rfl 28 rfl _ (zero32 _) 32 _ rfl zer32_get ?_; intro w1 hr1 hx1; have H1 := Lib.hid (And.intro hr1 (hx1.q (Q.refl _))); clear hr1 hx1))
    | (go_at_call 21; (with_reducible refine (HK1.out A2 n2 c2 S w1 H1.out.2 (SeesP.on HSS.out H1.out.2) HS.out HBS.out hSl).mono ?_); rintro e w2 ⟨rfl, H2⟩)
    | (refine gate 7 rfl ?_; go_loud (refine wpList_alloc_row rfl 28 rfl _ (zero32 _) 32 _ rfl zer32_get ?_; intro w3 hr3 hx3; have H3 := Lib.hid (And.intro hr3 hx3); clear hr3 hx3))
    | (refine wpList_store_all rfl 28 (.tmp 7) (.tmp 13) rfl w2.heap.size rfl _ rfl 32 info32b _ (arrO_agg _) (fun i _ => rfl) 28 _ H3.out.1 ?_; intro w4 hr4 hp4; have H4 := Lib.hid (And.intro hr4 hp4); clear hr4 hp4))
  have HR6 : Hid (w2.rowIs w.heap.size 28 32 (arrF [])) := row_q H2.out H1.out.1
  have HQ2 : Hid (Q w w2) := H1.out.2.trans' H2.out
  have hw2 : Hid (w.heap.size < w2.heap.size) := HR6.out.lt
  have H0 : Hid (Q w2 w4 ∧ w4.rowIs w2.heap.size 28 32 (arrF (stretch K S 0))) := ⟨H4.out.2.q (H3.out.2.q (Q.refl _)) (Nat.le_refl _), H4.out.1⟩
  clear H1 H2 H3 H4
  go_loopw [17] (fun i wr => ∃ k : Nat, k ≤ N ∧ i = .int .i64 k ∧ Hid (Q w2 wr ∧ wr.rowIs w2.heap.size 28 32 (arrF (stretch K S k)))) (fun i _ => N - (intOf i).toNat)
  case atStart => exact ⟨0, by omega, rfl, H0.out⟩
  case round =>
    obtain ⟨k, hk, rfl, HW⟩ := hrel
    obtain ⟨wo, rfl⟩ : ∃ wo, wo = wr := ⟨_, rfl⟩
    by_cases hkN : k < N
    · have HNX : Hid (stretch K S (k + 1) = mixB (stretch K S k) (hmac K (stretch K S k))) := rfl
      have HXL := Lib.hid (stretch_len K S k)
      have HXB := Lib.hid (stretch_byte K S k)
      generalize stretch K S k = X at *
      have HYB := Lib.hid (hmac_byte K X)
      have k32 := run_arr_all (P := Tryd.prog) 28 5 32 Tryd.underlying28 i8 hi8 hz81 w2.heap.size 0
      go_wp2_with (go_at_call 21; (with_reducible refine (HK1.out (some ⟨w2.heap.size, 0, none⟩) 32 32 X wo (HQ2.out.trans' HW.out.1) (sees_arr HW.out.2 HXL.out HW.out.2.lt) HXL.out HXB.out (by omega)).mono ?_); rintro e w5 ⟨rfl, H5⟩)
      generalize hmac K X = Y at *
      have H05 : Hid (Q w2 w5 ∧ w5.rowIs w2.heap.size 28 32 (mixG X Y 0)) := ⟨HW.out.1.trans' H5.out, (row_q H5.out HW.out.2).congr fun i _ => by unfold mixG arrF; rw [if_neg (by omega)]⟩
      go_loopw [23] (fun i wr => ∃ j : Nat, j ≤ 32 ∧ i = .int .i64 j ∧ Hid (Q w2 wr ∧ wr.rowIs w2.heap.size 28 32 (mixG X Y j))) (fun i _ => 32 - (intOf i).toNat)
      case atStart => exact ⟨0, by omega, rfl, H05.out⟩
      case round =>
        obtain ⟨j, hj, rfl, HX⟩ := hrel
        by_cases hj32 : j < 32
        · have ca := HX.out.2.cell (i := j) hj32
          have fa := HX.out.2.frozen j
          rw [mixG, if_neg (by omega)] at ca
          have hidx := run_index_agg (P := Tryd.prog) 28 5 32 Tryd.underlying28 (fun w => by go_simp) i8 hi8 hz81 _ _ (arrO_agg Y) .i64 j hj32
          have HXY : Hid (Value.int .u8 (bits .xor .u8 ((X.getD j 0 : Nat) : Int) ((Y.getD j 0 : Nat) : Int)) = B8 (X.getD j 0 ^^^ Y.getD j 0)) := congrArg _ (xor8 (getD_byte HXB.out j) (getD_byte HYB.out j)).1
          unfold arrF at hidx
          unfold B8 at ca hidx
          obtain ⟨x, hx⟩ : ∃ x, x = X.getD j 0 := ⟨_, rfl⟩
          obtain ⟨y, hy⟩ : ∃ y, y = Y.getD j 0 := ⟨_, rfl⟩
          rw [← hx] at ca
          rw [← hy] at hidx
          have HXX := Lib.hid hx
          have HYY := Lib.hid hy
          clear hx hy
          go_wp2_with fail
          go_roundw
          case rel => exact ⟨j + 1, by omega, by go_num, (Put.of_setCell _ _ _).q HX.out.1 (Nat.le_refl _), (HX.out.2.set j _).congr fun i _ => mixG_next (by rw [HXX.out, HYY.out]; exact HXY.out) i⟩
          case measure => simp [intOf]; omega
        · have hj' : j = 32 := by omega
          rw [hj'] at HX
          have HRE : Hid (Q w2 wr ∧ wr.rowIs w2.heap.size 28 32 (arrF (stretch K S (k + 1)))) := ⟨HX.out.1, HX.out.2.congr fun i hi => by rw [HNX.out]; exact mixG_end X Y hi⟩
          clear HX H05 hj'
          go_wp2_with fail
          go_roundw
          case rel => exact ⟨k + 1, by omega, by go_num, HRE.out⟩
          case measure => simp [intOf]; omega
    · have hk' : k = N := by omega
      rw [hk'] at HW
      have HQR : Hid (Q w wo) := HQ2.out.trans' HW.out.1
      have HRR : Hid (wo.rowIs w.heap.size 28 32 (arrF [])) := row_q HW.out.1 HR6.out
      clear hk'
      go_wp2_with (first
        | (refine gate 35 rfl ?_; go_loud (refine wpList_load_agg rfl 28 (.tmp 7) rfl w2.heap.size 0 rfl _ Tryd.underlying28 rfl 32 info32b _ (row_cells HW.out.2) ?_; intro V hV; have HV := Lib.hid hV; clear hV))
        | (refine wpList_store_all rfl 28 (.tmp 6) (.tmp 35) rfl w.heap.size rfl V rfl 32 info32b _ HV.out (fun i _ => rfl) 28 _ HRR.out ?_; intro w6 hr6 hp6; have H6 := Lib.hid (And.intro hr6 hp6); clear hr6 hp6))
      refine ret_cell rfl w.heap.size rfl _ Tryd.underlying28 rfl 32 info32b (arrF (stretch K S N)) (row_cells H6.out.1) rfl (fun v hv => ⟨by rw [arrO_eq hv], ?_⟩)
      exact H6.out.2.q HQR.out (Nat.le_refl _)
end Go.Proofs.YtcdbffgmgfblkaaDoor
