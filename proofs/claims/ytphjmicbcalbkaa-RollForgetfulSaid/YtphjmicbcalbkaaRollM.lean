/- The walk through the law RollAdds. -/
import Derived.Test.YtphjmicbcalbkaaRollL
import Derived.Deep.RegionHeld3
import Derived.Deep.AppendLies
namespace Go.Proofs.Ytphjmicbcalbkaa
set_option linter.unusedVariables false
set_option linter.unusedSimpArgs false
open Go.RowKit

theorem xor8 {x y : Nat} (hx : x ≤ 255) (hy : y ≤ 255) : bits .xor .u8 (x : Int) (y : Int) = ((x ^^^ y : Nat) : Int) ∧ x ^^^ y ≤ 255 := by
  have h : x ^^^ y < 2 ^ 8 := Nat.xor_lt_two_pow (by omega) (by omega)
  refine ⟨?_, by omega⟩
  have h1 : (BitVec.ofInt 8 (x : Int)).toNat = x := by
    rw [BitVec.ofInt_natCast, BitVec.toNat_ofNat]; exact Nat.mod_eq_of_lt (by omega)
  have h2 : (BitVec.ofInt 8 (y : Int)).toNat = y := by
    rw [BitVec.ofInt_natCast, BitVec.toNat_ofNat]; exact Nat.mod_eq_of_lt (by omega)
  show IntKind.u8.wrap ((BitVec.ofInt 8 (x : Int) ^^^ BitVec.ofInt 8 (y : Int)).toNat : Int) = _
  rw [BitVec.toNat_xor, h1, h2]
  simp [IntKind.wrap, IntKind.bits, IntKind.signed]
  omega

theorem roll_le {m : Nat} (hm : m ≤ 18446744073709551615) (hm0 : m ≠ 0) (l : List Nat) : Pol.roll m 0 l ≤ 18446744073709551615 := by
  have h1 := Pol.roll_len m hm0 l 0 (by rw [Pol.len_zero]; exact Pol.len_pos.2 hm0)
  have h2 := Pol.len_le64 hm
  have h3 := Pol.len_le.1 (show Pol.len (Pol.roll m 0 l) ≤ 64 by omega)
  omega

set_option maxHeartbeats 4000000 in
set_option maxRecDepth 100000 in
theorem rollAdds_bad (m : Nat) (A B : Option Addr) (n c n' c' : Nat) (w : World) (hm : m ≤ 18446744073709551615) (hl : Pol.len m < 9) :
    Calls Try.prog 4 #[.int .u64 (m : Int), .slice A n c, .slice B n' c'] w fun e w' => e = .returned (.bool true) ∧ Q w w' := by
  go_enter Try.func4, Try.ntmps4
  go_wp2_with (first
    | (refine gate 20 rfl ?_; refine wpList_min3 rfl (.tmp 17) (.tmp 19) (.const (.int .i64 200)) _ rfl .i64 n n' 200 _ rfl rfl rfl rfl ?_)
    | (go_at_call 12; (with_reducible refine (right_no _ _ hm hl).mono ?_); rintro e w1 ⟨rfl, hq1⟩)
    | (go_at_call 11; (with_reducible refine (rolls_true _).mono ?_); rintro e w5 ⟨rfl, hq5⟩))
  go_ret
  exact ⟨rfl, (by repeat (first | exact Q.refl _ | refine Q.step ?_ (by assumption) | apply Q.alloc) : Q w _)⟩

set_option maxHeartbeats 8000000 in
set_option maxRecDepth 100000 in
theorem rollAdds_good (m : Nat) (A B : Option Addr) (n c n' c' k : Nat) (l r : List Nat) (w : World) (hm : m ≤ 18446744073709551615) (hl : 9 ≤ Pol.len m)
    (hs : SeesP w (· < w.heap.size) A (l.map B8)) (hr : SeesP w (· < w.heap.size) B (r.map B8)) (hk : k = min (min n n') 200) (hlk : l.length = k) (hrk : r.length = k) (hx : ∀ x ∈ l, x ≤ 255) (hy : ∀ x ∈ r, x ≤ 255)
    (hnc : n ≤ c) (hcm : c ≤ 9223372036854775807) (hnc' : n' ≤ c') (hcm' : c' ≤ 9223372036854775807) :
    Calls Try.prog 4 #[.int .u64 (m : Int), .slice A n c, .slice B n' c'] w fun e w' => e = .returned (.bool true) ∧ Q w w' := by
  obtain ⟨i0, hi, hz0, hz1, hz2⟩ := info_parts info8
  have HS := Lib.hid hs
  have HR := Lib.hid hr
  have HX := Lib.hid hx
  have HY := Lib.hid hy
  have HL := Lib.hid hlk
  have HRL := Lib.hid hrk
  have hmi : min (min (n : Int) (n' : Int)) 200 = (k : Int) := by omega
  have hk1 : k ≤ n := by omega
  have hk2 : k ≤ 200 := by omega
  have hk3 : k ≤ c := by omega
  have hk4 : k ≤ c' := by omega
  have hk5 : k ≤ n' := by omega
  have hm0 : m ≠ 0 := Pol.len_pos.1 (by omega)
  have hP1 := Lib.hid (fun (w' : World) (hq : Q w w') => show Calls Try.prog 9 #[.int .u64 (m : Int), .slice A k c] w' fun e w2 => e = .returned (.tuple #[.int .u64 (Pol.roll m 0 l : Nat), .int .i64 0]) ∧ Q w' w2 by
    subst hlk; exact of_ok m A c (· < w.heap.size) l w' hm hl (HS.out.below hq) (fun g hg => Nat.lt_of_lt_of_le hg hq.size) (by omega) hx)
  have hP2 := Lib.hid (fun (w' : World) (hq : Q w w') => show Calls Try.prog 9 #[.int .u64 (m : Int), .slice B k c'] w' fun e w2 => e = .returned (.tuple #[.int .u64 (Pol.roll m 0 r : Nat), .int .i64 0]) ∧ Q w' w2 by
    have h := of_ok m B c' (· < w.heap.size) r w' hm hl (HR.out.below hq) (fun g hg => Nat.lt_of_lt_of_le hg hq.size) (by omega) hy
    rw [hrk] at h; exact h)
  obtain ⟨z, hz⟩ : ∃ z, z = List.zipWith (· ^^^ ·) l r := ⟨_, rfl⟩
  have hzl : z.length = k := by rw [hz, List.length_zipWith, hlk, hrk]; omega
  have hzx : ∀ x ∈ z, x ≤ 255 := by
    intro x hxz
    rw [hz] at hxz
    obtain ⟨j, hj, rfl⟩ := List.getElem_of_mem hxz
    rw [List.getElem_zipWith]
    exact (xor8 (hx _ (List.getElem_mem _)) (hy _ (List.getElem_mem _))).2
  have hzj : ∀ j (h1 : j < l.length) (h2 : j < r.length) (h3 : j < z.length), z[j] = l[j] ^^^ r[j] := by
    intro j h1 h2 h3
    subst hz
    rw [List.getElem_zipWith]
  have hzr : Pol.roll m 0 z = Pol.roll m 0 l ^^^ Pol.roll m 0 r := by
    rw [hz]
    have := Pol.roll_xor m l r (by omega) 0 0
    rw [Nat.xor_self] at this
    exact this
  have hP3 := Lib.hid (fun (v : Value) (w' : World) (h : w'.ownsRow w.heap.size 5 1 v k (z.map B8)) => show ∃ A1 c1, v = .slice A1 k c1 ∧ Calls Try.prog 9 #[.int .u64 (m : Int), .slice A1 k c1] w' fun e w2 => e = .returned (.tuple #[.int .u64 (Pol.roll m 0 l ^^^ Pol.roll m 0 r : Nat), .int .i64 0]) ∧ Q w' w2 by
    obtain ⟨A1, c1, rfl, _, hs1⟩ := SeesP.of_own h
    refine ⟨A1, c1, rfl, ?_⟩
    have h := of_ok m A1 c1 (fun b => w.heap.size ≤ b ∧ b < w'.heap.size) z w' hm hl hs1 (fun g hg => hg.2) (by omega) hzx
    rw [hzl, hzr] at h
    exact h)
  have HZL := Lib.hid hzl
  have HZJ := Lib.hid hzj
  have hp1 := roll_le hm hm0 l
  have hp2 := roll_le hm hm0 r
  generalize Pol.roll m 0 l = p1 at *
  generalize Pol.roll m 0 r = p2 at *
  have hbe := beq_self_eq_true ((p1 ^^^ p2 : Nat) : Int)
  have HK := Lib.hid hk
  clear hk hmi
  clear hs hr hx hy hlk hrk hz hzl hzx hzj hzr
  go_enter Try.func4, Try.ntmps4
  go_wp2_with (first
    | (refine gate 20 rfl ?_; refine wpList_min3 rfl (.tmp 17) (.tmp 19) (.const (.int .i64 200)) _ rfl .i64 n n' 200 k rfl rfl rfl HK.out ?_)
    | (go_at_call 12; (with_reducible refine (right_yes _ _ hm hl).mono ?_); rintro e w1 ⟨rfl, hq1⟩)
    | (go_at_call 11; (with_reducible refine (rolls_true _).mono ?_); rintro e w5 ⟨rfl, hq5⟩))
  have hq0 : Q w w1 := hq5.step hq1
  clear hq5 hq1
  go_loopw [8, 9] (fun v i wr => ∃ (j : Nat), j ≤ k ∧ i = .int .i64 j ∧ Hid (wr.ownsRow w.heap.size 5 1 v j ((z.take j).map B8)) ∧ Q w wr) (fun _ i _ => k - (intOf i).toNat)
  case atStart => exact ⟨0, by omega, rfl, ⟨by simp, .inl ⟨rfl, rfl⟩⟩, hq0⟩
  case round =>
    obtain ⟨j, hj, rfl, HO, hq⟩ := hrel
    by_cases hlt : j < k
    · have h1 : j < l.length := by rw [HL.out]; exact hlt
      have h2 : j < r.length := by rw [HRL.out]; exact hlt
      have h3 : j < z.length := by rw [HZL.out]; exact hlt
      obtain ⟨b, o, rfl, hb, hc1⟩ := (HS.out.below hq).at_ (k := j) (u := B8 l[j]) (by simp [h1])
      obtain ⟨b', o', rfl, hb', hc2⟩ := (HR.out.below hq).at_ (k := j) (u := B8 r[j]) (by simp [h2])
      have hx1 := HX.out l[j] (List.getElem_mem h1)
      have hx2 := HY.out r[j] (List.getElem_mem h2)
      have hnew : Hid ((z.take (j + 1)).map B8 = (z.take j).map B8 ++ [B8 (l[j] ^^^ r[j])]) := by
        show _ = _
        rw [List.take_succ_eq_append_getElem h3, List.map_append, HZJ.out j h1 h2 h3]; rfl
      generalize l[j] = x at *
      generalize r[j] = y at *
      obtain ⟨x8, xl⟩ := xor8 hx1 hx2
      unfold B8 at hc1 hc2
      have hown := HO.out
      have hb1 : u8.ownBlock ≠ some b := fun e => by have := own_block hown b e; omega
      have hb2 : u8.ownBlock ≠ some b' := fun e => by have := own_block hown b' e; omega
      have hsz := hq.size
      have lb : b < wr.heap.size := by omega
      have lb' : b' < wr.heap.size := by omega
      have hj0 : (0 : Int) ≤ (j : Int) := Int.natCast_nonneg _
      have hj1 : (j : Int) < (n : Int) := by omega
      have hj2 : (j : Int) < (n' : Int) := by omega
      have hn1 : j + 1 ≤ maxLen := by unfold maxLen; omega
      have hn2 : (j + 1) * 1 ≤ 140737488355328 := by omega
      clear hb hb' HO
      go_wp2_with fail
      go_region_held3 (fun w' => w'.cell? ⟨b, o + j, none⟩ = some (.int .u8 (x : Int)) ∧ w'.cell? ⟨b', o' + j, none⟩ = some (.int .u8 (y : Int)))
        (first
          | go_keep
          | (go_split_ands
             refine ⟨?_, ?_⟩
             · (rw [hgrow.cell_far _ (by simp; omega) (Ne.symm hb1)]; assumption)
             · (rw [hgrow.cell_far _ (by simp; omega) (Ne.symm hb2)]; assumption)))
        ((refine step_append_lies _ (by rfl) _ _ _ (by rfl) w.heap.size 5 i0 _ 1 1 Try.underlying23 hi hz0 hz1 hz2 rfl (by omega) u8 j ((z.take j).map B8) (by rfl) ((hown.alloc _).drew)
            ⟨wr.heap.size, 0, none⟩ 1 1 [.int .u8 ((x ^^^ y : Nat) : Int)] (by rfl) (by rfl) (World.news_of_block (cs := #[.int .u8 ((x ^^^ y : Nat) : Int)]) (t := 5) (fr := (0, 0)) (heap_alloc_new wr _)) (by simp [Value.oneCell'])
            (by omega) hn1 hn2 (by simp; omega) (wr.heap.size + 1) (by simp) ?_; intro gg cap w2 hown1 hgrow hat hltg))
      have hq2 : Q w w2 := Q.grown ((hq.alloc _).drew) hown hgrow
      have HO2 : Hid (w2.ownsRow w.heap.size 5 1 (.slice (some ⟨gg, 0, none⟩) (j + 1) cap) (j + 1) ((z.take (j + 1)).map B8)) := by
        show World.ownsRow _ _ _ _ _ _ _; rw [hnew.out]; exact hown1
      clear hown1 hgrow hat hown hnew hc1 hc2
      go_wp2
      go_roundw
      case rel => exact ⟨j + 1, by omega, by go_num, HO2.out, hq2⟩
      case measure => simp [intOf]; omega
    · have hje : j = k := by omega
      have hown := HO.out
      rw [hje, ← HZL.out, List.take_length, HZL.out] at hown
      obtain ⟨A1, c1, rfl, HC⟩ := hP3.out _ _ hown
      have HC3 := Lib.hid hown
      clear HO hown HC
      go_wp2_with (first
        | (refine gate 50 rfl ?_; refine wpList_slice_hi rfl 23 (.tmp 48) (.tmp 49) rfl 5 Try.underlying23 i0 hi _ _ _ rfl .i64 k rfl hk3 ?_)
        | (refine gate 58 rfl ?_; refine wpList_slice_hi rfl 23 (.tmp 56) (.tmp 57) rfl 5 Try.underlying23 i0 hi _ _ _ rfl .i64 k rfl hk4 ?_)
        | (go_at_call 9; first
            | ((with_reducible refine (hP1.out _ hq).mono ?_); rintro e w1 ⟨rfl, hq1⟩; have hqa : Q w w1 := hq.step hq1)
            | ((with_reducible refine (hP2.out _ hqa).mono ?_); rintro e w2 ⟨rfl, hq2⟩; have hqb : Q w w2 := hqa.step hq2; obtain ⟨A1', c1', e', HC'⟩ := hP3.out _ _ (own_below (own_below HC3.out hq1) hq2); injection e' with e1 e2 e3; subst e1; subst e3)
            | ((with_reducible refine HC'.mono ?_); rintro e w3 ⟨rfl, hq3⟩; have hqc : Q w w3 := hqb.step hq3))
        | (go_at_call 13; (with_reducible refine (add_lit _ _ _ _ _ (by simp) (by assumption) (by assumption)).mono ?_); rintro e w' ⟨rfl, rfl⟩))
      go_ret
      exact ⟨rfl, hqc.alloc _⟩

theorem rollAdds_true (a : Int) (wa : (Lit.int .u64 a).wf = true) (A : Option Addr) (n c : Nat) (zs : List Int) (B : Option Addr) (n' c' : Nat) (zs' : List Int) (w : World) (wA : IsRow .u8 w A n c zs) (wB : IsRow .u8 w B n' c' zs') :
    Calls Try.prog 4 #[.int .u64 a, .slice A n c, .slice B n' c'] w fun e w' => e = .returned (.bool true) ∧ Below w.heap.size w w' := by
  obtain ⟨ha, ha'⟩ := wf64 wa
  obtain ⟨m, rfl⟩ := Int.eq_ofNat_of_zero_le ha
  by_cases hl : 9 ≤ Pol.len m
  · obtain ⟨h1, h2, h3, h4, h5, h6⟩ := row8 wA (min (min n n') 200) (by omega)
    obtain ⟨g1, g2, g3, g4, g5, g6⟩ := row8 wB (min (min n n') 200) (by omega)
    exact rollAdds_good m A B n c n' c' _ _ _ w (by omega) hl h2 g2 rfl h1 g1 h3 g3 h4 h5 g4 g5
  · exact rollAdds_bad m A B n c n' c' w (by omega) (by omega)
end Go.Proofs.Ytphjmicbcalbkaa
