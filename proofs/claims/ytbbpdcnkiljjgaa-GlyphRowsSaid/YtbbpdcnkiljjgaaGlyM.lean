/- GlyphRows. -/
import Derived.Test.YtbbpdcnkiljjgaaGlyL
import Derived.Test.YtbbpdcnkiljjgaaSl
import Derived.Test.YtbbpdcnkiljjgaaRws
import Derived.Deep.DeepCutAuto
import Derived.Deep.RegionHeld3
namespace Go.Proofs.Ytbbpdcnkiljjgaa
set_option linter.unusedVariables false
set_option linter.unusedSimpArgs false
open Go.RowKit

theorem rawNil (w0 w : World) (g c : Nat) (s : Nat × List Nat) (h : Hid (OutN w0 w g s c)) (hc : c ≤ 100000) : Calls Try.prog 19 #[.pointer (some ⟨g, 0, none⟩), .slice none 0 0] w (OutR w0 g s c) := by
  obtain ⟨v, h1, h2, h3⟩ := h.out
  refine (raws_ok w0.heap.size g s.1 0 none [] s.2 v (fun _ => False) w h1 (SeesP.nil _ _ _) (fun z hz => by simp at hz) (fun k hk => hk.elim) (by simp; omega) (by simp)).mono ?_
  rintro e' w' ⟨v', rfl, h4⟩
  exact ⟨rfl, OutN.of_st h1 h2 h4 h3⟩
theorem numNil (w0 w : World) (g c : Nat) (s : Nat × List Nat) (h : Hid (OutN w0 w g s c)) (hc : c ≤ 100000) : Calls Try.prog 14 #[.pointer (some ⟨g, 0, none⟩), .slice none 0 0] w (OutR w0 g s (c + 1)) :=
  nums1 h [] none 0 (SeesP.nil _ _ _) (by simp) hc
theorem textNil (w0 w : World) (g c : Nat) (s : Nat × List Nat) (h : Hid (OutN w0 w g s c)) (hc : c ≤ 100000) : Calls Try.prog 16 #[.pointer (some ⟨g, 0, none⟩), .slice none 0 0] w (OutR w0 g s c) :=
  texts1 h [] none 0 (SeesP.nil _ _ _) (by simp) hc (by simp)
set_option maxHeartbeats 16000000 in
set_option maxRecDepth 100000 in
theorem rows_ok (A B C : Option Addr) (n cA m cB k cC : Nat) (zs : List Int) (ts : List ByteArray) (ys : List Bool) (w : World) (h1 : n ≤ cA) (h2 : m ≤ cB) (h3 : k ≤ cC)
    (hzs : zs.length = min n 30) (hts : ts.length = min m 30) (hys : ys.length = min k 30) (hA : SeesP w (· < w.heap.size) A (zs.map (.int .i64))) (hB : SeesP w (· < w.heap.size) B (ts.map .string)) (hC : SeesP w (· < w.heap.size) C (ys.map .bool))
    (htm : ∀ t ∈ ts, t.size ≤ 9223372036854775807) : Calls Try.prog 4 #[.slice A n cA, .slice B m cB, .slice C k cC] w fun e w' => e = .returned (.bool true) ∧ Hid (Q w w') := by
  obtain ⟨n', hn'⟩ : ∃ x : Nat, x = zs.length := ⟨_, rfl⟩
  obtain ⟨m', hm'⟩ : ∃ x : Nat, x = ts.length := ⟨_, rfl⟩
  obtain ⟨k', hk'⟩ : ∃ x : Nat, x = ys.length := ⟨_, rfl⟩
  have g1 : n' ≤ cA := by omega
  have g2 : m' ≤ cB := by omega
  have g3 : k' ≤ cC := by omega
  have g4 : n' ≤ 30 := by omega
  have g5 : m' ≤ 30 := by omega
  have g6 : k' ≤ 30 := by omega
  have hn'' : min (n : Int) 30 = (n' : Int) := by omega
  have hm'' : min (m : Int) 30 = (m' : Int) := by omega
  have hk'' : min (k : Int) 30 = (k' : Int) := by omega
  have HN := Lib.hid hn'
  have HM := Lib.hid hm'
  have HK := Lib.hid hk'
  have HA := Lib.hid hA
  have HB := Lib.hid hB
  have HC := Lib.hid hC
  have HT := Lib.hid htm
  have hb := fun w => Lib.hid (beginZ w 9 9 rfl (by omega))
  have hgl := fun w => Lib.hid (glyphs_ok w)
  clear hn' hm' hk' hzs hts hys hA hB hC htm
  go_enter Try.func4, Try.ntmps4
  go_upto_region 1 with fail
  go_quiet (fail)
  clear hn'' hm'' hk''
  go_wp2_with fail
  go_loopw [7] (fun i wr => ∃ j : Nat, j ≤ m' ∧ i = .int .i64 j ∧ Hid (∀ t ∈ ts.take j, t.size ≤ 1000) ∧ Q w wr) (fun i _ => m' - (intOf i).toNat)
  case atStart => exact ⟨0, by omega, rfl, by intro t ht; simp at ht, (Q.refl w).drewN _⟩
  case round =>
    obtain ⟨j, hj, rfl, HS, hq⟩ := hrel
    by_cases hlt : j < m'
    · have hkl : j < ts.length := by rw [← HM.out]; exact hlt
      obtain ⟨bb, oo, rfl, hbb, hc⟩ := (HB.out.below hq).at_ (k := j) (u := .string ts[j]) (by simp [hkl])
      have HNX : Hid (ts[j].size ≤ 1000 → ∀ t ∈ ts.take (j + 1), t.size ≤ 1000) := by
        intro h t ht
        rw [List.take_succ_eq_append_getElem hkl, List.mem_append, List.mem_singleton] at ht
        rcases ht with ht | rfl
        · exact HS.out t ht
        · exact h
      clear hbb
      generalize ts[j] = t at *
      by_cases hsz : t.size ≤ 1000
      · go_wp2_with fail
        go_roundw
        case rel => exact ⟨j + 1, by omega, by go_num, HNX.out hsz, hq⟩
        case measure => simp [intOf]; omega
      · go_wp2_with (go_at_call 10; go_loud ((with_reducible refine (hgl _).out.mono ?_); rintro e w4 ⟨rfl, HG⟩))
        go_ret
        exact ⟨rfl, Lib.hid (hq.trans' HG.out)⟩
    · have hQ := Lib.hid hq
      have HNU : Hid (∀ w1 g s c, Hid (OutN wr w1 g s c) → c ≤ 10 → Calls Try.prog 14 #[.pointer (some ⟨g, 0, none⟩), .slice A n' cA] w1 (OutR wr g (zs.foldl numStep s) (c + 1))) := fun w1 g s c h hc => by
        have hw : Q wr w1 := by obtain ⟨_, _, h2, _⟩ := h.out; exact h2
        rw [HN.out] at g4 ⊢
        exact nums1 h zs A cA (((HA.out.below (hQ.out.trans' hw))).more (fun b hb => Nat.lt_of_lt_of_le hb hQ.out.size)) (by omega) (by omega)
      have HTX : Hid (∀ w1 g s c, Hid (OutN wr w1 g s c) → c ≤ 10 → Calls Try.prog 16 #[.pointer (some ⟨g, 0, none⟩), .slice B m' cB] w1 (OutR wr g (ts.foldl textStep s) (c + ts.length))) := fun w1 g s c h hc => by
        have hw : Q wr w1 := by obtain ⟨_, _, h2, _⟩ := h.out; exact h2
        rw [HM.out] at g5 ⊢
        exact texts1 h ts B cB (((HB.out.below (hQ.out.trans' hw))).more (fun b hb => Nat.lt_of_lt_of_le hb hQ.out.size)) (by omega) (by omega) HT.out
      have HFL : Hid (∀ w1 g s c, Hid (OutN wr w1 g s c) → c ≤ 100 → Calls Try.prog 18 #[.pointer (some ⟨g, 0, none⟩), .slice C k' cC] w1 (OutR wr g (ys.foldl flagStep s) (c + 1))) := fun w1 g s c h hc => by
        have hw : Q wr w1 := by obtain ⟨_, _, h2, _⟩ := h.out; exact h2
        rw [HK.out] at g6 ⊢
        exact flags1 h ys C cC (((HC.out.below (hQ.out.trans' hw))).more (fun b hb => Nat.lt_of_lt_of_le hb hQ.out.size)) (by omega) (by omega)
      have htl : ts.length ≤ 30 := by rw [← HM.out]; exact g5
      clear hq
      go_wp2_with (first
        | (go_at_call 11; go_loud ((with_reducible refine (hb _).out.mono ?_); rintro e w1 ⟨g, rfl, H1⟩))
        | (go_at_call 14; first
            | ((with_reducible refine (HNU.out _ _ _ _ H1 (by omega)).mono ?_); rintro e w2 ⟨rfl, H2⟩)
            | ((with_reducible refine (numNil _ _ _ _ _ H4 (by omega)).mono ?_); rintro e w2 ⟨rfl, H5⟩))
        | (go_at_call 16; first
            | ((with_reducible refine (HTX.out _ _ _ _ H2 (by omega)).mono ?_); rintro e w2 ⟨rfl, H3⟩)
            | ((with_reducible refine (textNil _ _ _ _ _ H5 (by omega)).mono ?_); rintro e w2 ⟨rfl, H6⟩))
        | (go_at_call 18; go_loud ((with_reducible refine (HFL.out _ _ _ _ H3 (by omega)).mono ?_); rintro e w2 ⟨rfl, H4⟩))
        | (go_at_call 19; go_loud ((with_reducible refine (rawNil _ _ _ _ _ H6 (by omega)).mono ?_); rintro e w2 ⟨rfl, H7⟩))
        | (go_at_call 9; go_loud ((with_reducible refine (bytes1 H7 (by omega)).mono ?_); rintro e w2 ⟨A1, cp1, n1, rfl, L1, X1⟩)))
      have HX1 := Lib.hid (And.intro L1.out X1.out)
      clear HNU HTX HFL H2 H3 H4 H5 H6 H7 L1 X1
      have H0 : Hid (OutN w2 w1 g ((zs.take 0).foldl numStep (0, [72, 89, 9])) (1 + 0)) := H1
      go_loopw [11] (fun i wy => ∃ j : Nat, j ≤ n' ∧ i = .int .i64 j ∧ Hid (OutN w2 wy g ((zs.take j).foldl numStep (0, [72, 89, 9])) (1 + j))) (fun i _ => n' - (intOf i).toNat)
      case atStart => exact ⟨0, by omega, rfl, H0⟩
      case round =>
        obtain ⟨j2, hj2, rfl, HO⟩ := hrel
        have hQx : Q w wr := by obtain ⟨_, _, h2, _⟩ := HO.out; exact hQ.out.trans' (HX1.out.2.2.1.trans' h2)
        by_cases hlt2 : j2 < n'
        · have hkl : j2 < zs.length := by rw [← HN.out]; exact hlt2
          obtain ⟨bb, oo, rfl, hbb, hc⟩ := (HA.out.below hQx).at_ (k := j2) (u := .int .i64 zs[j2]) (by simp [hkl])
          have HNX : Hid ((zs.take (j2 + 1)).foldl numStep (0, [72, 89, 9]) = numStep ((zs.take j2).foldl numStep (0, [72, 89, 9])) zs[j2]) := by show _ = _; rw [List.take_succ_eq_append_getElem hkl, List.foldl_append]; rfl
          clear hbb
          generalize zs[j2] = z at *
          have HNUM := Lib.hid (num1 HO z (by omega))
          clear hQx
          go_wp2_with (go_at_call 14; go_loud ((with_reducible refine HNUM.out.mono ?_); rintro e w3 ⟨rfl, H2⟩))
          go_roundw
          case rel => exact ⟨j2 + 1, by omega, by go_num, by rw [HNX.out]; exact H2⟩
          case measure => simp [intOf]; omega
        · have HO2 : Hid (OutN w2 wr g (zs.foldl numStep (0, [72, 89, 9])) (1 + j2)) := by
            have h1 := HO.out
            rw [List.take_of_length_le (by rw [← HN.out]; omega)] at h1
            exact h1
          clear HO hQx H0
          go_wp2_with fail
          generalize zs.foldl numStep (0, [72, 89, 9]) = s2 at *
          have H0 : Hid (OutN w2 wr g ((ts.take 0).foldl textStep s2) (1 + j2 + 0)) := HO2
          go_loopw [12] (fun i wy => ∃ j : Nat, j ≤ m' ∧ i = .int .i64 j ∧ Hid (OutN w2 wy g ((ts.take j).foldl textStep s2) (1 + j2 + j))) (fun i _ => m' - (intOf i).toNat)
          case atStart => exact ⟨0, by omega, rfl, H0⟩
          case round =>
            obtain ⟨j3, hj3, rfl, HO⟩ := hrel
            have hQx : Q w wr := by obtain ⟨_, _, h2, _⟩ := HO.out; exact hQ.out.trans' (HX1.out.2.2.1.trans' h2)
            by_cases hlt3 : j3 < m'
            · have hkl : j3 < ts.length := by rw [← HM.out]; exact hlt3
              obtain ⟨bb, oo, rfl, hbb, hc⟩ := (HB.out.below hQx).at_ (k := j3) (u := .string ts[j3]) (by simp [hkl])
              have HNX : Hid ((ts.take (j3 + 1)).foldl textStep s2 = textStep ((ts.take j3).foldl textStep s2) ts[j3]) := by show _ = _; rw [List.take_succ_eq_append_getElem hkl, List.foldl_append]; rfl
              have htz := HT.out ts[j3] (List.getElem_mem hkl)
              clear hbb
              generalize ts[j3] = z at *
              have HNUM := Lib.hid (text1 HO z (by omega) htz)
              clear hQx
              go_wp2_with (go_at_call 16; go_loud ((with_reducible refine HNUM.out.mono ?_); rintro e w3 ⟨rfl, H2⟩))
              go_roundw
              case rel => exact ⟨j3 + 1, by omega, by go_num, by rw [HNX.out]; exact H2⟩
              case measure => simp [intOf]; omega
            · have HO3 : Hid (OutN w2 wr g (ts.foldl textStep s2) (1 + j2 + j3)) := by
                have h1 := HO.out
                rw [List.take_of_length_le (by rw [← HM.out]; omega)] at h1
                exact h1
              clear HO hQx H0
              go_wp2_with fail
              generalize ts.foldl textStep s2 = s3 at *
              have H0 : Hid (OutN w2 wr g ((ys.take 0).foldl flagStep s3) (1 + j2 + j3 + 0)) := HO3
              go_loopw [13] (fun i wy => ∃ j : Nat, j ≤ k' ∧ i = .int .i64 j ∧ Hid (OutN w2 wy g ((ys.take j).foldl flagStep s3) (1 + j2 + j3 + j))) (fun i _ => k' - (intOf i).toNat)
              case atStart => exact ⟨0, by omega, rfl, H0⟩
              case round =>
                obtain ⟨j4, hj4, rfl, HO⟩ := hrel
                have hQx : Q w wr := by obtain ⟨_, _, h2, _⟩ := HO.out; exact hQ.out.trans' (HX1.out.2.2.1.trans' h2)
                by_cases hlt4 : j4 < k'
                · have hkl : j4 < ys.length := by rw [← HK.out]; exact hlt4
                  obtain ⟨bb, oo, rfl, hbb, hc⟩ := (HC.out.below hQx).at_ (k := j4) (u := .bool ys[j4]) (by simp [hkl])
                  have HNX : Hid ((ys.take (j4 + 1)).foldl flagStep s3 = flagStep ((ys.take j4).foldl flagStep s3) ys[j4]) := by show _ = _; rw [List.take_succ_eq_append_getElem hkl, List.foldl_append]; rfl
                  clear hbb
                  generalize ys[j4] = z at *
                  have HNUM := Lib.hid (flag1 HO z (by omega))
                  clear hQx
                  go_wp2_with (go_at_call 18; go_loud ((with_reducible refine HNUM.out.mono ?_); rintro e w3 ⟨rfl, H2⟩))
                  go_roundw
                  case rel => exact ⟨j4 + 1, by omega, by go_num, by rw [HNX.out]; exact H2⟩
                  case measure => simp [intOf]; omega
                · have HO4 : Hid (OutN w2 wr g (ys.foldl flagStep s3) (1 + j2 + j3 + j4)) := by
                    have h1 := HO.out
                    rw [List.take_of_length_le (by rw [← HK.out]; omega)] at h1
                    exact h1
                  clear HO hQx H0
                  generalize ys.foldl flagStep s3 = s4 at *
                  go_wp2_with (first
                    | (go_at_call 9; go_loud ((with_reducible refine (bytes1 HO4 (by omega)).mono ?_); rintro e w5 ⟨A2, cp2, n2, rfl, L2, X2⟩))
                    | (go_at_call 10; go_loud ((with_reducible refine (hgl _).out.mono ?_); rintro e w6 ⟨rfl, HG⟩; have hk1 := (HX1.out.2.q (X2.out.2.1.trans' HG.out)).string HX1.out.1.symm; have hk2 := (X2.out.q HG.out).string L2.out.symm)))
                  go_ret
                  exact ⟨rfl, Lib.hid (hQ.out.trans' (HX1.out.2.2.1.trans' (X2.out.2.1.trans' HG.out)))⟩
theorem rows_true (A : Option Addr) (n cA : Nat) (zs : List Int) (B : Option Addr) (m cB : Nat) (ts : List ByteArray) (C : Option Addr) (k cC : Nat) (ys : List Bool) (w : World)
    (hA : IsRow .i64 w A n cA zs) (hB : RowOf .string w B m cB ts ∧ ∀ s ∈ ts, s.size ≤ maxLen) (hC : RowOf .bool w C k cC ys) :
    Calls Try.prog 4 #[.slice A n cA, .slice B m cB, .slice C k cC] w fun e w' => e = .returned (.bool true) ∧ Below w.heap.size w w' := by
  have lA := hA.len_le
  have lB := hB.1.len_le
  have lC := hC.len_le
  refine (rows_ok A B C n cA m cB k cC (zs.take (min n 30)) (ts.take (min m 30)) (ys.take (min k 30)) w lA.1 lB.1 lC.1 (by rw [List.length_take]; omega) (by rw [List.length_take]; omega) (by rw [List.length_take]; omega) ?_ ?_ ?_ ?_).mono fun e w' ⟨h1, h2⟩ => ⟨h1, h2.out⟩
  · rw [List.map_take]; exact hA.sees.take _
  · rw [List.map_take]; exact hB.1.sees.take _
  · rw [List.map_take]; exact hC.sees.take _
  · intro t ht
    have := hB.2 t (List.mem_of_mem_take ht)
    simp only [maxLen] at this; omega
end Go.Proofs.Ytbbpdcnkiljjgaa
