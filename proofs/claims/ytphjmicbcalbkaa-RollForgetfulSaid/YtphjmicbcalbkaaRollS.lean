/- The walk through the law RollPushes. -/
import Derived.Test.YtphjmicbcalbkaaRollQ
namespace Go.Proofs.Ytphjmicbcalbkaa
set_option linter.unusedVariables false
set_option linter.unusedSimpArgs false
open Go.RowKit

theorem push_one (m N r lb x : Nat) (t : TypeId) (W : List Nat) (w : World) (hm : m ≤ 18446744073709551615) (hl : 9 ≤ Pol.len m) (hN1 : 1 ≤ N) (hN2 : N ≤ 1024) (hh : RollHas w r lb m N W) (hx : x ≤ 255) :
    Calls Try.prog 16 #[.pointer (some ⟨r, 0, none⟩), .slice (some ⟨w.heap.size, 0, none⟩) 1 1] (w.alloc (.cells #[.int .u8 (x : Int)] t)) fun e w' => e = .returned (.int .u64 (Pol.roll m 0 (slide W [x]) : Nat)) ∧ RollHas w' r lb m N (slide W [x]) ∧ Only (Own2 r lb) w w' := by
  have hlt := hh.lt
  have h := push_ok m N r lb 1 1 (some ⟨w.heap.size, 0, none⟩) (fun b => b = w.heap.size) W [x] (w.alloc (.cells #[.int .u8 (x : Int)] t)) hm hl hN1 hN2 (hh.q ((Q.refl w).alloc _))
    (fun _ => ⟨_, 0, rfl, rfl, fun j u hu => by
      match j, hu with
      | 0, hu => simp at hu; subst hu; unfold B8; go_simp⟩)
    (fun b hb => by
      subst hb
      refine ⟨by simp, fun h => ?_⟩
      rcases h with h | h <;> omega) rfl (by omega) (by simp; omega)
  exact h.mono fun e w' ⟨h1, h2, h3⟩ => ⟨h1, h2, (Only.of_q ((Q.refl w).alloc _)).trans h3⟩

set_option maxHeartbeats 4000000 in
set_option maxRecDepth 100000 in
theorem rollPushes_bad1 (m n c : Nat) (N : Int) (A : Option Addr) (w : World) (hm : m ≤ 18446744073709551615) (hl : Pol.len m < 9) :
    Calls Try.prog 7 #[.int .u64 (m : Int), .int .i64 N, .slice A n c] w fun e w' => e = .returned (.bool true) ∧ Q w w' := by
  go_enter Try.func7, Try.ntmps7
  go_wp2_with (first
    | (go_at_call 11; (with_reducible refine (rolls_true _).mono ?_); rintro e w5 ⟨rfl, hq5⟩)
    | (go_at_call 20; (with_reducible refine (none_nil _).mono ?_); rintro e w6 ⟨rfl, rfl⟩)
    | (go_at_call 16; (with_reducible refine (push_nil _ _ _ _).mono ?_); rintro e w6 ⟨rfl, rfl⟩)
    | (go_at_call 17; (with_reducible refine (sum_nil _).mono ?_); rintro e w6 ⟨rfl, rfl⟩)
    | (go_at_call 21; (with_reducible refine (clear_nil _).mono ?_); rintro e w6 ⟨rfl, rfl⟩)
    | (go_at_call 15; (with_reducible refine (new_bad1 _ _ _ hm hl).mono ?_); rintro e w7 ⟨rfl, hq7⟩)
    | (go_at_call 12; (with_reducible refine (right_no _ _ hm hl).mono ?_); rintro e w8 ⟨rfl, hq8⟩))
  go_ret
  exact ⟨rfl, (by repeat (first | exact Q.refl _ | refine Q.step ?_ (by assumption) | apply Q.alloc) : Q w _)⟩

set_option maxHeartbeats 4000000 in
set_option maxRecDepth 100000 in
theorem rollPushes_bad2 (m n c : Nat) (N : Int) (A : Option Addr) (w : World) (hm : m ≤ 18446744073709551615) (hl : 9 ≤ Pol.len m) (hN : N < 1) :
    Calls Try.prog 7 #[.int .u64 (m : Int), .int .i64 N, .slice A n c] w fun e w' => e = .returned (.bool true) ∧ Q w w' := by
  go_enter Try.func7, Try.ntmps7
  go_wp2_with (first
    | (go_at_call 11; (with_reducible refine (rolls_true _).mono ?_); rintro e w5 ⟨rfl, hq5⟩)
    | (go_at_call 20; (with_reducible refine (none_nil _).mono ?_); rintro e w6 ⟨rfl, rfl⟩)
    | (go_at_call 16; (with_reducible refine (push_nil _ _ _ _).mono ?_); rintro e w6 ⟨rfl, rfl⟩)
    | (go_at_call 17; (with_reducible refine (sum_nil _).mono ?_); rintro e w6 ⟨rfl, rfl⟩)
    | (go_at_call 21; (with_reducible refine (clear_nil _).mono ?_); rintro e w6 ⟨rfl, rfl⟩)
    | (go_at_call 15; (with_reducible refine (new_bad2 _ _ _ hm hl (.inl hN)).mono ?_); rintro e w7 ⟨rfl, hq7⟩)
    | (go_at_call 12; (with_reducible refine (right_yes _ _ hm hl).mono ?_); rintro e w8 ⟨rfl, hq8⟩))
  go_ret
  exact ⟨rfl, (by repeat (first | exact Q.refl _ | refine Q.step ?_ (by assumption) | apply Q.alloc) : Q w _)⟩

set_option maxHeartbeats 4000000 in
set_option maxRecDepth 100000 in
theorem rollPushes_bad3 (m n c : Nat) (N : Int) (A : Option Addr) (w : World) (hm : m ≤ 18446744073709551615) (hl : 9 ≤ Pol.len m) (hN : 1024 < N) :
    Calls Try.prog 7 #[.int .u64 (m : Int), .int .i64 N, .slice A n c] w fun e w' => e = .returned (.bool true) ∧ Q w w' := by
  go_enter Try.func7, Try.ntmps7
  go_wp2_with (first
    | (go_at_call 11; (with_reducible refine (rolls_true _).mono ?_); rintro e w5 ⟨rfl, hq5⟩)
    | (go_at_call 20; (with_reducible refine (none_nil _).mono ?_); rintro e w6 ⟨rfl, rfl⟩)
    | (go_at_call 16; (with_reducible refine (push_nil _ _ _ _).mono ?_); rintro e w6 ⟨rfl, rfl⟩)
    | (go_at_call 17; (with_reducible refine (sum_nil _).mono ?_); rintro e w6 ⟨rfl, rfl⟩)
    | (go_at_call 21; (with_reducible refine (clear_nil _).mono ?_); rintro e w6 ⟨rfl, rfl⟩)
    | (go_at_call 15; (with_reducible refine (new_bad2 _ _ _ hm hl (.inr hN)).mono ?_); rintro e w7 ⟨rfl, hq7⟩)
    | (go_at_call 12; (with_reducible refine (right_yes _ _ hm hl).mono ?_); rintro e w8 ⟨rfl, hq8⟩))
  go_ret
  exact ⟨rfl, (by repeat (first | exact Q.refl _ | refine Q.step ?_ (by assumption) | apply Q.alloc) : Q w _)⟩

set_option maxHeartbeats 8000000 in
set_option maxRecDepth 100000 in
theorem rollPushes_good (m n c N K : Nat) (A : Option Addr) (l : List Nat) (w : World) (hm : m ≤ 18446744073709551615) (hl : 9 ≤ Pol.len m) (hN1 : 1 ≤ N) (hN2 : N ≤ 1024)
    (hs : SeesP w (· < w.heap.size) A (l.map B8)) (hK : K = min n 150) (hlk : l.length = K) (hx : ∀ x ∈ l, x ≤ 255) (hnc : n ≤ c) (hcm : c ≤ 9223372036854775807) :
    Calls Try.prog 7 #[.int .u64 (m : Int), .int .i64 (N : Int), .slice A n c] w fun e w' => e = .returned (.bool true) ∧ Q w w' := by
  obtain ⟨i0, hi, hz0, hz1, hz2⟩ := info_parts info8
  have HS := Lib.hid hs
  have HX := Lib.hid hx
  have HL := Lib.hid hlk
  have HK := Lib.hid hK
  have hK1 : K ≤ c := by omega
  have hK2 : K ≤ 150 := by omega
  have hKn : K ≤ n := by omega
  have hm0 := Lib.hid (Pol.len_pos.1 (show 0 < Pol.len m by omega))
  have hr00 := Lib.hid (roll_zeros0 m hm0.out N)
  clear hs hx hlk hK
  go_enter Try.func7, Try.ntmps7
  go_wp2_with (first
    | (go_at_call 11; (with_reducible refine (rolls_true _).mono ?_); rintro e w5 ⟨rfl, hq5⟩)
    | (go_at_call 20; (with_reducible refine (none_nil _).mono ?_); rintro e w6 ⟨rfl, rfl⟩)
    | (go_at_call 16; (with_reducible refine (push_nil _ _ _ _).mono ?_); rintro e w6 ⟨rfl, rfl⟩)
    | (go_at_call 17; first
        | ((with_reducible refine (sum_nil _).mono ?_); rintro e w6 ⟨rfl, rfl⟩)
        | ((with_reducible refine (sum_ok (HR.out.q hq8)).mono ?_); rw [hr00.out]; rintro e w6 ⟨rfl, rfl⟩))
    | (go_at_call 21; (with_reducible refine (clear_nil _).mono ?_); rintro e w6 ⟨rfl, rfl⟩)
    | (go_at_call 15; (with_reducible refine (new_ok _ _ _ hm hl hN1 hN2).mono ?_); rintro e w7 ⟨r, lb, rfl, hr1, hr2, hr3, hq7⟩; have HR := Lib.hid hr3; clear hr3)
    | (go_at_call 12; (with_reducible refine (right_yes _ _ hm hl).mono ?_); rintro e w8 ⟨rfl, hq8⟩)
    | (refine gate 61 rfl ?_; refine wpList_min2 rfl (.tmp 60) (.const (.int .i64 150)) _ rfl .i64 n 150 K rfl rfl HK.out ?_)
    | (refine gate 62 rfl ?_; refine wpList_slice_hi rfl 23 (.tmp 58) (.tmp 61) rfl 5 Try.underlying23 i0 hi _ _ _ rfl .i64 K rfl hK1 ?_))
  have hq0 : Q w w8 := (by repeat (first | exact Q.refl _ | refine Q.step ?_ (by assumption) | apply Q.alloc) : Q w w8)
  have hle : w.heap.size ≤ r := Nat.le_trans (by have h : Q w _ := ((Q.refl w).step hq5); first | exact h.size | exact (h.alloc _).size) hr1
  have hle2 : w.heap.size ≤ lb := Nat.le_trans (by have h : Q w _ := ((Q.refl w).step hq5); first | exact h.size | exact (h.alloc _).size) hr2
  have HR8 := Lib.hid (HR.out.q hq8)
  clear HR hq8 hq7 hr1 hr2 hq5
  have hS2 : ∀ k, Own2 r lb k → w.heap.size ≤ k := fun k h => by rcases h with rfl | rfl <;> assumption
  have HS2 := Lib.hid hS2
  clear hS2
  go_loopw [9, 10, 11, 12] (fun i _ _ _ wr => ∃ k : Nat, k ≤ K ∧ i = .int .i64 k ∧ Hid (RollHas wr r lb m N (slide (List.replicate N 0) (l.take k))) ∧ Q w wr) (fun i _ _ _ _ => K - (intOf i).toNat)
  case atStart => exact ⟨0, by omega, rfl, HR8.out, hq0⟩
  case round =>
    obtain ⟨k, hk, rfl, HH, hq⟩ := hrel
    by_cases hlt : k < K
    · have hkl : k < l.length := by rw [HL.out]; exact hlt
      obtain ⟨F, hF⟩ : ∃ F, F = k + 1 - N := ⟨_, rfl⟩
      have hFk : F ≤ k := by omega
      have hmax : (F : Int) = max ((k : Int) + 1 - (N : Int)) 0 := by omega
      have hD : ∀ w' : World, Q w w' → Calls Try.prog 10 #[.int .u64 (m : Int), .slice (cutA A c F 1) (k + 1 - F) (c - F)] w' fun e w2 => e = .returned (.tuple #[.int .u64 (Pol.roll m 0 ((l.take (k + 1)).drop F) : Nat), .int .i64 0]) ∧ Q w' w2 := by
        intro w' hq'
        have h1 := (HS.out.below hq').take (k + 1)
        rw [← List.map_take] at h1
        have h2 := h1.cut (c := c) (l := F) (s := 1) (by rw [List.length_map, List.length_take]; omega)
        rw [Nat.mul_one, ← List.map_drop] at h2
        have h := docOf_ok m (cutA A c F 1) (c - F) (· < w.heap.size) ((l.take (k + 1)).drop F) w' hm hl h2 (fun g hg => Nat.lt_of_lt_of_le hg hq'.size) (by rw [List.length_drop, List.length_take]; omega) (fun x hx => HX.out x (List.mem_of_mem_take (List.mem_of_mem_drop hx)))
        rw [show ((l.take (k + 1)).drop F).length = k + 1 - F by rw [List.length_drop, List.length_take]; omega] at h
        exact h
      have HD := Lib.hid hD
      obtain ⟨b, o, rfl, hb, hc⟩ := (HS.out.below hq).at_ (k := k) (u := B8 l[k]) (by simp [hkl])
      have hx1 := HX.out l[k] (List.getElem_mem hkl)
      have hsl : Hid (slide (List.replicate N 0) (l.take (k + 1)) = slide (slide (List.replicate N 0) (l.take k)) [l[k]]) := by show _ = _; rw [List.take_succ_eq_append_getElem hkl, slide_append]
      have hwant : Hid (Pol.roll m 0 ((l.take (k + 1)).drop F) = Pol.roll m 0 (slide (List.replicate N 0) (l.take (k + 1)))) := by
        show _ = _
        rw [slide_zeros m hm0.out N hN1, List.length_take, Nat.min_eq_left (by omega), hF]
      have hlen : Hid (RollHas wr r lb m N (slide (List.replicate N 0) (l.take k))) := HH
      generalize l[k] = x at *
      generalize Pol.roll m 0 ((l.take (k + 1)).drop F) = want at *
      generalize hW2 : slide (List.replicate N 0) (l.take (k + 1)) = W2 at *
      have HW2 := Lib.hid hW2
      generalize slide (List.replicate N 0) (l.take k) = W1 at *
      unfold B8 at hc
      have HC := Lib.hid hc
      have HMX := Lib.hid hmax
      clear hmax
      have hble : b < w.heap.size := hb
      clear hD hF hW2 hc hb HH
      have hi1 : ((k : Int) + 1 - (F : Int)).toNat = k + 1 - F := by omega
      go_wp2_with (first
        | (refine gate 73 rfl ?_; refine wpList_max2 rfl (.tmp 72) (.const (.int .i64 0)) _ rfl .i64 ((k : Int) + 1 - (N : Int)) 0 (F : Int) rfl rfl HMX.out ?_)
        | (refine gate 80 rfl ?_; refine wpList_slice_lh rfl 23 (.tmp 76) (.tmp 77) (.tmp 79) rfl 5 Try.underlying23 i0 hi 1 hz1 _ _ _ rfl .i64 .i64 F (k + 1) rfl rfl (by omega) (by omega) ?_)
        | (go_at_call 10; (with_reducible refine (HD.out _ hq).mono ?_); rintro e w9 ⟨rfl, hq9⟩; have hqa : Q w w9 := hq.step hq9; have hc9 : w9.cell? ⟨b, o + k, none⟩ = some (.int .u8 (x : Int)) := (hq9.cell (p := ⟨b, o + k, none⟩) (by have := hq.size; simp; omega)).trans HC.out; have hr9 := Lib.hid (hlen.out.q hq9))
        | (go_at_call 16; (with_reducible refine (push_one m N r lb x _ _ _ hm hl hN1 hN2 hr9.out hx1).mono ?_); rw [← hsl.out, ← hwant.out]; rintro e w10 ⟨rfl, hr10', hq10⟩; have hqb : Q w w10 := hq10.q hqa HS2.out; have hr10 := Lib.hid hr10'; clear hr10' hq10)
        | (go_at_call 17; (with_reducible refine (sum_ok hr10.out).mono ?_); rw [← hwant.out]; rintro e w11 ⟨rfl, rfl⟩))
      go_roundw
      case rel => exact ⟨k + 1, by omega, by go_num, (by rw [HW2.out]; exact hr10), hqb⟩
      case measure => simp [intOf]; omega
    · clear HH
      go_wp2_with fail
      go_ret
      exact ⟨rfl, hq⟩

theorem rollPushes_true (a : Int) (wa : (Lit.int .u64 a).wf = true) (N : Int) (wN : (Lit.int .i64 N).wf = true) (A : Option Addr) (n c : Nat) (zs : List Int) (w : World) (wA : IsRow .u8 w A n c zs) :
    Calls Try.prog 7 #[.int .u64 a, .int .i64 N, .slice A n c] w fun e w' => e = .returned (.bool true) ∧ Below w.heap.size w w' := by
  obtain ⟨ha, ha'⟩ := wf64 wa
  obtain ⟨m, rfl⟩ := Int.eq_ofNat_of_zero_le ha
  by_cases hl : 9 ≤ Pol.len m
  · by_cases h1 : N < 1
    · exact rollPushes_bad2 m n c N A w (by omega) hl h1
    · by_cases h2 : 1024 < N
      · exact rollPushes_bad3 m n c N A w (by omega) hl h2
      · obtain ⟨N, rfl⟩ := Int.eq_ofNat_of_zero_le (show 0 ≤ N by omega)
        obtain ⟨h1, h2, h3, h4, h5, h6⟩ := row8 wA (min n 150) (by omega)
        exact rollPushes_good m n c N _ A _ w (by omega) hl (by omega) (by omega) h2 rfl h1 h3 h4 h5
  · exact rollPushes_bad1 m n c N A w (by omega) (by omega)
end Go.Proofs.Ytphjmicbcalbkaa
