/- The walk through the law PolyAdds. -/
import Derived.Test.YtgilaklgpopjeaaPolB
import Derived.Test.YtgilaklgpopjeaaPolH
namespace Go.Proofs.Ytgilaklgpopjeaa
open Go.RowKit

theorem infoPoly : (Try.prog.info? 25).map (fun i => (i.zero, i.size, i.bytes)) = some (some (.int .u64 0), 1, 8) := by kernel_rfl
theorem P64_one (l : List Nat) : ∀ u ∈ l.map P64, u.oneCell' = true := by
  intro u hu
  simp at hu
  obtain ⟨_, _, rfl⟩ := hu
  rfl

theorem sum_cons (x : Nat) (l : List Nat) : Pol.sum (x :: l) = x ^^^ Pol.sum l := by
  have := Pol.sum_append [x] l
  rw [List.singleton_append] at this
  rw [this]; congr 1; simp [Pol.sum]
theorem sum_reverse (l : List Nat) : Pol.sum l.reverse = Pol.sum l := by
  induction l with
  | nil => rfl
  | cons x l ih => rw [List.reverse_cons, Pol.sum_snoc, ih, sum_cons, Nat.xor_comm]

set_option maxHeartbeats 8000000 in
set_option maxRecDepth 100000 in
theorem adds_nat (A : Option Addr) (n c : Nat) (L M : List Nat) (w : World) (hs : SeesP w (· < w.heap.size) A ((L ++ M).map P64)) (hn : L.length = min n 40) (hnc : n ≤ c) (hc : c ≤ 9223372036854775807) (hx : ∀ x ∈ L, x ≤ 18446744073709551615) :
    Calls Try.prog 3 #[.slice A n c] w fun e w' => e = .returned (.bool true) ∧ Below w.heap.size w w' := by
  obtain ⟨i0, hi, hz0, hz1, hz2⟩ := info_parts infoPoly
  have HS : Hid (SeesP w (· < w.heap.size) A (L.map P64)) := by rw [List.map_append] at hs; exact hs.prefix_
  have HX := Lib.hid hx
  clear hs hx
  have hm : (min (n : Int) 40) = ((min n 40 : Nat) : Int) := by omega
  have hm1 : min n 40 ≤ n := by omega
  have hm2 : min n 40 ≤ 40 := by omega
  rw [← hn] at hm hm1 hm2
  generalize hmm : L.length = m at *
  have HM := Lib.hid hmm
  clear hmm hn
  go_enter Try.func3, Try.ntmps3
  go_wp2
  go_loopw [3, 4, 5, 6] (fun v1 v2 x i wr => ∃ (k y : Nat), k ≤ m ∧ i = .int .i64 k ∧ x = .int .u64 y ∧ y ≤ 18446744073709551615 ∧ Hid (y = Pol.sum (L.take k) ∧ wr.ownsRow w.heap.size 25 1 v1 k ((L.take k).map P64) ∧ wr.ownsRow w.heap.size 25 1 v2 k ((L.reverse.take k).map P64) ∧ Far v1 v2) ∧ Q w wr) (fun _ _ _ i _ => m - (intOf i).toNat)
  case atStart => exact ⟨0, 0, by omega, rfl, rfl, by omega, ⟨rfl, ⟨by simp, .inl ⟨rfl, rfl⟩⟩, ⟨by simp, .inl ⟨rfl, rfl⟩⟩, Far.nil _⟩, Q.refl _⟩
  case round =>
    obtain ⟨k, y, hk, rfl, rfl, hy, HH, hq⟩ := hrel
    by_cases hlt : k < m
    · have hkL : k < L.length := by rw [HM.out]; exact hlt
      have hrL : m - 1 - k < L.length := by rw [HM.out]; omega
      have hseen := HS.out.below hq
      obtain ⟨b, o, rfl, hb, hc1⟩ := hseen.at_ (k := k) (u := P64 L[k]) (by simp [hkL])
      obtain ⟨b', o', e', _, hc2⟩ := hseen.at_ (k := m - 1 - k) (u := P64 L[m - 1 - k]) (by simp [hrL])
      injection e' with e'
      injection e' with e1 e2
      subst e1
      subst e2
      obtain ⟨h1, h2, h3, h4⟩ := HH.out
      have hx1 := HX.out _ (List.getElem_mem hkL)
      have s1 : Hid (y ^^^ L[k] = Pol.sum (L.take (k + 1))) := by show _ = _; rw [List.take_succ_eq_append_getElem hkL, Pol.sum_snoc, h1]
      have s2 : Hid ((L.take (k + 1)).map P64 = (L.take k).map P64 ++ [P64 L[k]]) := by show _ = _; rw [List.take_succ_eq_append_getElem hkL, List.map_append]; rfl
      have s3 : Hid ((L.reverse.take (k + 1)).map P64 = (L.reverse.take k).map P64 ++ [P64 L[m - 1 - k]]) := by
        show _ = _
        have hk' : k < L.reverse.length := by simpa using hkL
        have e : L.reverse[k] = L[m - 1 - k] := by rw [List.getElem_reverse]; congr 1; rw [HM.out]
        rw [List.take_succ_eq_append_getElem hk', e, List.map_append]; rfl
      generalize L[k] = u at *
      generalize L[m - 1 - k] = u' at *
      have xu := xor_nat hy hx1
      have xl := xor_le hy hx1
      have hi1 : ((m : Int) - 1 - (k : Int)).toNat = m - 1 - k := by omega
      unfold P64 at hc1 hc2
      have H2 := Lib.hid h2
      have H3 := Lib.hid h3
      have H4 := Lib.hid h4
      have hsz := hq.size
      clear h1 h2 h3 h4 HH hseen
      go_wp2_with (at_builtin; refine wpList_append_one rfl (.tmp 19) (.tmp 24) 23 rfl w.heap.size 25 i0 (.int .u64 0) 8 Try.underlying23 hi hz0 hz1 hz2 rfl _ _ _ rfl H2.out (.int .u64 (u : Int)) _ _ rfl rfl rfl ?c3 ?c4 hsz ?_)
      case c3 => simp only [maxLen]; omega
      case c4 => omega
      intro v1' w1 hown1 hg1 _
      have hq1 : Q w w1 := hg1.q hq H2.out
      have H3' := Lib.hid (hg1.keeps H4.out H3.out)
      have H4' := Lib.hid (hg1.far H4.out H3.out)
      have H1' : Hid (w1.ownsRow w.heap.size 25 1 v1' (k + 1) ((L.take (k + 1)).map P64)) := by show World.ownsRow _ _ _ _ _ _ _; rw [s2.out, List.map_take]; exact hown1
      have hbg : u3.ownBlock ≠ some b := fun e => by have := own_block H2.out b e; omega
      have hce : w1.cell? ⟨b, o + (m - 1 - k), none⟩ = some (.int .u64 (u' : Int)) := (hg1.cell (p := ⟨b, o + (m - 1 - k), none⟩) (by simp; omega) hbg).trans hc2
      have hce2 : w1.cell? ⟨b, o + k, none⟩ = some (.int .u64 (u : Int)) := (hg1.cell (p := ⟨b, o + k, none⟩) (by simp; omega) hbg).trans hc1
      have hsz1 := hq1.size
      have hble : b < w1.heap.size := by omega
      clear hown1 H2 H3 H4 hc1 hc2 hg1
      go_wp2_with (at_builtin; refine wpList_append_one rfl (.tmp 26) (.tmp 35) 23 rfl w.heap.size 25 i0 (.int .u64 0) 8 Try.underlying23 hi hz0 hz1 hz2 rfl _ _ _ rfl H3'.out (.int .u64 (u' : Int)) _ _ rfl rfl rfl ?c3 ?c4 hsz1 ?_)
      case c3 => simp only [maxLen]; omega
      case c4 => omega
      intro v2' w2 hown2 hg2 _
      have hq2 : Q w w2 := hg2.q hq1 H3'.out
      have H5 := Lib.hid (hg2.keeps H4'.out.symm H1'.out)
      have H6 := Lib.hid (hg2.far H4'.out.symm H1'.out).symm
      have hbg2 : u4.ownBlock ≠ some b := fun e => by have := own_block H3'.out b e; omega
      have hce3 : w2.cell? ⟨b, o + k, none⟩ = some (.int .u64 (u : Int)) := (hg2.cell (p := ⟨b, o + k, none⟩) (by simp; omega) hbg2).trans hce2
      have H7 : Hid (w2.ownsRow w.heap.size 25 1 v2' (k + 1) ((L.reverse.take (k + 1)).map P64)) := by show World.ownsRow _ _ _ _ _ _ _; rw [s3.out, List.map_take, List.map_reverse]; exact hown2
      clear hown2 H1' H3' H4' hce hce2 hg2
      go_wp2
      go_roundw
      case rel => exact ⟨k + 1, y ^^^ u, by omega, by go_num, rfl, xl, ⟨s1.out, H5.out, H7.out, H6.out⟩, hq2⟩
      case measure => simp [intOf]; omega
    · have hke : k = m := by omega
      obtain ⟨h1, h2, h3, h4⟩ := HH.out
      have hmL := HM.out
      rw [hke, ← hmL, List.take_length] at h1 h2
      rw [hke, ← hmL, ← List.length_reverse, List.take_length] at h3
      rw [List.length_reverse] at h3
      obtain ⟨A1, c1, rfl, hA1, hs1⟩ := SeesP.of_own h2
      obtain ⟨A2, c2, rfl, hA2, hs2⟩ := SeesP.of_own h3
      have H1 := Lib.hid h1
      have H2 := Lib.hid h2
      have H3 := Lib.hid h3
      have H4 := Lib.hid h4
      have S1 := Lib.hid (hs1.more (ok' := (· < wr.heap.size)) fun b h => h.2)
      have S2 := Lib.hid (hs2.more (ok' := (· < wr.heap.size)) fun b h => h.2)
      have hLl : L.length ≤ 9223372036854775807 := by rw [hmL]; omega
      have hL40 : L.length ≤ 40 := by rw [hmL]; omega
      have hyl : Hid (Pol.sum L = y) := h1.symm
      have N2 := Lib.hid hA2
      clear h1 h2 h3 h4 HH hs1 hs2 hA1 hA2 hmL
      go_wp2_with (first
        | (go_at_call 11; (with_reducible refine (add_nat A1 c1 _ L _ S1.out hLl HX.out).mono ?_); rw [hyl.out]; rintro e w1 ⟨rfl, rfl⟩)
        | (go_at_call 12; (with_reducible refine (bits_true _).mono ?_); rintro e w' ⟨rfl, hb1⟩))
      have HR : Hid (Calls Try.prog 11 #[.slice A2 L.length c2] w' fun e w'' => e = .returned (.int .u64 (y : Nat)) ∧ w' = w'') := by
        have h := add_nat A2 c2 _ L.reverse w' (S2.out.below hb1) (by simpa using hLl) (fun x hx => HX.out x (by simpa using hx))
        rw [List.length_reverse, sum_reverse, hyl.out] at h
        exact h
      have hown' := Lib.hid (own_below H2.out hb1)
      have S2' := Lib.hid (S2.out.below hb1)
      have hq' : Q w w' := hq.step hb1
      have hsz' := hq'.size
      have hfin : Hid (∀ v3 w3, w3.ownsRow w.heap.size 25 1 v3 (L.length + L.length) (L.map P64 ++ (L.map P64).reverse) → ∃ A3 c3, v3 = .slice A3 (L.length + L.length) c3 ∧ Calls Try.prog 11 #[.slice A3 (L.length + L.length) c3] w3 fun e w'' => e = .returned (.int .u64 0) ∧ w3 = w'') := by
        intro v3 w3 h3
        obtain ⟨A3, c3, rfl, _, hs3⟩ := SeesP.of_own h3
        rw [← List.map_reverse, ← List.map_append] at hs3
        have h := add_nat A3 c3 w3.heap.size (L ++ L.reverse) w3 (hs3.more fun b h => h.2) (by rw [List.length_append, List.length_reverse]; omega) (fun x hx => HX.out x (by simpa using hx))
        rw [List.length_append, List.length_reverse, Pol.sum_append, sum_reverse, Nat.xor_self] at h
        exact ⟨A3, c3, rfl, h⟩
      have hly : Hid ((Pol.len y : Int) - 1 = (Pol.len y : Int) - 1) := rfl
      go_wp2_with (first
        | (go_at_call 11; (with_reducible refine HR.out.mono ?_); rintro e w1 ⟨rfl, rfl⟩)
        | (at_builtin; refine guard_off (by rfl) ?_; refine wpList_append_sees rfl (.tmp 58) (.tmp 59) 23 rfl w.heap.size 25 i0 (.int .u64 0) 8 Try.underlying23 hi hz0 hz1 hz2 rfl _ _ _ rfl hown'.out _ A2 L.length c2 (L.reverse.map P64) rfl N2.out (by simp) S2'.out (P64_one _) ?c3 ?c4 hsz' ?_))
      case c3 => simp only [maxLen]; omega
      case c4 => omega
      intro v3 w3 hown3 hg3 _ _
      have hq3 : Q w w3 := Q.grown hq' hown'.out hg3
      obtain ⟨A3, c3, rfl, HC⟩ := hfin.out v3 w3 hown3
      have HC3 := Lib.hid HC
      clear HC hown3 hg3
      go_wp2_with (first
        | (go_at_call 11; (with_reducible refine HC3.out.mono ?_); rintro e w1 ⟨rfl, rfl⟩)
        | (go_at_call 13; (with_reducible refine (deg_nat _ _ hy).mono ?_); rintro e w' ⟨rfl, rfl⟩)
        | (go_at_call 14; (with_reducible refine (refDeg_nat _ _ hy).mono ?_); rintro e w' ⟨rfl, hqc⟩))
      go_ret
      exact ⟨rfl, hq3.step hqc⟩

theorem row_nat {w : World} {a : Option Addr} {n c : Nat} {zs : List Int} (h : IsRow .u64 w a n c zs) : (zs.map Int.toNat).map P64 = zs.map (.int .u64) ∧ ∀ x ∈ zs.map Int.toNat, x ≤ 18446744073709551615 := by
  have hwf := h.wf
  constructor
  · rw [List.map_map]
    apply List.map_congr_left
    intro z hz
    have := wf64 (hwf z hz)
    simp only [Function.comp, P64]
    rw [Int.toNat_of_nonneg this.1]
  · intro x hx
    rw [List.mem_map] at hx
    obtain ⟨z, hz, rfl⟩ := hx
    have := wf64 (hwf z hz)
    omega

theorem adds_true (a : Option Addr) (n c : Nat) (zs : List Int) (w : World) (wa : IsRow .u64 w a n c zs) :
    Calls Try.prog 3 #[.slice a n c] w fun e w' => e = .returned (.bool true) ∧ Below w.heap.size w w' := by
  obtain ⟨h1, h2⟩ := row_nat wa
  obtain ⟨l1, l2, l3⟩ := wa.len_le
  have hs := wa.sees
  rw [← h1] at hs
  have hsplit := List.take_append_drop (min n 40) (zs.map Int.toNat)
  rw [← hsplit] at hs h2
  refine adds_nat a n c _ _ w hs ?_ l1 ?_ (fun x hx => h2 x (List.mem_append_left _ hx))
  · rw [List.length_take, List.length_map, l2]; omega
  · unfold maxLen at l3; omega
end Go.Proofs.Ytgilaklgpopjeaa
