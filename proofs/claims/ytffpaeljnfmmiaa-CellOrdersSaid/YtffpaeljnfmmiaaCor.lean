/- CellOrders. -/
import Derived.Test.YtffpaeljnfmmiaaClk
namespace Go.Proofs.Ytffpaeljnfmmiaa
set_option linter.unusedVariables false
set_option linter.unusedSimpArgs false
open Go.RowKit Go.Maps

set_option maxHeartbeats 8000000 in
set_option maxRecDepth 100000 in
theorem cellOrders_true (A : Option Addr) (n c : Nat) (zs : List Int) (w : World) (wA : IsRow .i64 w A n c zs) :
    Calls Try.prog 3 #[.slice A n c] w fun e w' => e = .returned (.bool true) ∧ Q w w' := by
  have hl := wA.len_le
  have HW := Lib.hid wA
  have HN : Hid (n ≤ 9223372036854775807) := Lib.hid (by unfold maxLen at hl; omega)
  have HS := Lib.hid (newShelf_ok 10 w (by decide) (by decide))
  clear wA hl
  go_enter Try.func3, Try.ntmps3
  go_wp2_with (first
    | (go_at_call 5; go_loud (refine HS.out.mono ?_; rintro e1 w1 ⟨s, mb, rfl, h1, hq1, hs1, hm1⟩; have H1 := Lib.hid h1; have HQ1 := Lib.hid hq1; have HL1 := Lib.hid (And.intro hs1 hm1); clear h1 hq1 hs1 hm1))
    | (go_at_call 6; go_loud (refine (newCell_ok s w1).mono ?_; rintro e2 w2 ⟨c0, rfl, h2, hq2, hc2⟩; have HD := Lib.hid (show c0 ≠ s ∧ c0 ≠ mb ∧ w.heap.size ≤ c0 from ⟨by have := H1.out.lt; omega, by have := H1.out.ltm; omega, Nat.le_trans HQ1.out.size hc2⟩); have H2 := Lib.hid (H1.out.q hq2); have C2 := Lib.hid h2; have HQ2 := Lib.hid (HQ1.out.step hq2); clear h2 hq2 hc2))
    | (go_at_call 7; go_loud (refine (rises_ok _).mono ?_; rintro e1 w3 ⟨rfl, hq3⟩; have H3 := Lib.hid (H2.out.q hq3); have C3 := Lib.hid (C2.out.q hq3); have HQ3 := Lib.hid (HQ2.out.step hq3); clear hq3)))
  go_loopw [7, 8] (fun nw i wr => ∃ (k m : Nat) (x : Int), k ≤ n ∧ k ≤ 60 ∧ m ≤ k ∧ i = .int .i64 k ∧ nw = .int .i64 x ∧ 0 ≤ x ∧ x ≤ 4611686018427387903 ∧ Hid (ShHas wr s mb 0 (.map []) ⟨-1, false, m⟩ 10 ∧ CeHas wr c0 s x ∧ Q w wr)) (fun _ i _ => n - (intOf i).toNat)
  case atStart => exact ⟨0, 0, 0, by omega, by omega, by omega, rfl, rfl, by omega, by omega, Lib.hid ⟨H3.out, C3.out, HQ3.out⟩⟩
  case round =>
    obtain ⟨k, m, x, hk, hk6, hmk, rfl, rfl, hx0, hx1, HK⟩ := hrel
    obtain ⟨wq, hwq⟩ : ∃ w, w = wr := ⟨_, rfl⟩
    subst hwq
    by_cases hlt : k < n
    · have d1 : decide ((k : Int) < (n : Int)) = true := decide_eq_true (by omega)
      by_cases hlt6 : k < 60
      · have d2 : decide ((k : Int) < 60) = true := decide_eq_true (by omega)
        obtain ⟨b, o, z, rfl, hb, hz, hz0, hz1⟩ := HW.out.at_ k hlt
        have cz : wq.cell? ⟨b, o + k, none⟩ = some (.int .i64 z) := by
          have := HK.out.2.2.cell (p := ⟨b, o + k, none⟩) hb
          rw [this]; exact hz
        have hkn : (0 : Int) ≤ (k : Int) := by omega
        obtain ⟨y, hy⟩ : ∃ y, z.tmod 4611686018427387904 = y := ⟨_, rfl⟩
        have hy1 : y ≤ 4611686018427387903 := by have := Int.tmod_lt_of_pos z (b := 4611686018427387904) (by decide); omega
        by_cases h5 : (k : Int) % 5 = 4
        · have d5 : ((k : Int) % 5 == 4) = true := beq_iff_eq.2 h5
          clear h5
          rcases Int.lt_or_le x y with hxy | hxy
          · skip
            have HR := Lib.hid (raise_up c0 s mb 0 m x y _ _ wq HK.out.2.1 HK.out.1 (has_nil _) (by omega) HD.out.1 HD.out.2.1 hxy hy1)
            have HMX : Hid (y = max x y) := Lib.hid (by omega)
            have d3 : decide (x < y) = true := decide_eq_true (by omega)
            go_wp2_with (first
              | (go_at_call 8; go_loud (refine HR.out.mono ?_; rintro e4 w4 ⟨rfl, h4, c4, ho4⟩; have H4 := Lib.hid h4; have C4 := Lib.hid c4; have HQ4 := Lib.hid (ho4.q HK.out.2.2 (fun k hk => by rcases hk with e | e; exact e ▸ HL1.out.1; exact e ▸ HD.out.2.2)); have HC := Lib.hid (crash0_ok s mb 0 _ _ w4 h4 (by decide)); clear h4 c4 ho4))
              | ((with_reducible refine gate 66 rfl ?_); go_loud (refine wpList_max2 rfl (.tmp 64) (.tmp 65) _ rfl .i64 x y y rfl rfl HMX.out ?_))
              | (go_at_call 9; go_loud (refine HC.out.mono ?_; rintro e5 w5 ⟨rfl, h5, ho5⟩; have H5 := Lib.hid h5; have C5 := Lib.hid (C4.out.only ho5 HD.out.1); have HQ5 := Lib.hid (ho5.q HQ4.out (fun k hk => hk ▸ HL1.out.1)); have HX := Lib.hid (read_on c0 s mb 0 _ _ _ _ _ w5 C5.out h5 (has_nil _)); clear h5 ho5))
              | (go_at_call 10; go_loud (refine HX.out.mono ?_; rintro e6 w6 ⟨rfl, hq6⟩; have H6 := Lib.hid (H5.out.q hq6); have C6 := Lib.hid (C5.out.q hq6); have HQ6 := Lib.hid (HQ5.out.step hq6); clear hq6)))
            go_roundw
            case rel => exact ⟨k + 1, m + 1, y, by omega, by omega, by omega, by go_num, rfl, by omega, by omega, Lib.hid ⟨H6.out, C6.out, HQ6.out⟩⟩
            case measure => simp only [intOf]; omega
          · skip
            have HR := Lib.hid (raise_no c0 s mb 0 m x y _ _ wq HK.out.2.1 HK.out.1 (has_nil _) (by omega) HD.out.1 HD.out.2.1 hxy)
            have HMX : Hid (x = max x y) := Lib.hid (by omega)
            have d3 : decide (x < y) = false := decide_eq_false (by omega)
            go_wp2_with (first
              | (go_at_call 8; go_loud (refine HR.out.mono ?_; rintro e4 w4 ⟨rfl, h4, c4, ho4⟩; have H4 := Lib.hid h4; have C4 := Lib.hid c4; have HQ4 := Lib.hid (ho4.q HK.out.2.2 (fun k hk => by rcases hk with e | e; exact e ▸ HL1.out.1; exact e ▸ HD.out.2.2)); have HC := Lib.hid (crash0_ok s mb 0 _ _ w4 h4 (by decide)); clear h4 c4 ho4))
              | ((with_reducible refine gate 66 rfl ?_); go_loud (refine wpList_max2 rfl (.tmp 64) (.tmp 65) _ rfl .i64 x y x rfl rfl HMX.out ?_))
              | (go_at_call 9; go_loud (refine HC.out.mono ?_; rintro e5 w5 ⟨rfl, h5, ho5⟩; have H5 := Lib.hid h5; have C5 := Lib.hid (C4.out.only ho5 HD.out.1); have HQ5 := Lib.hid (ho5.q HQ4.out (fun k hk => hk ▸ HL1.out.1)); have HX := Lib.hid (read_on c0 s mb 0 _ _ _ _ _ w5 C5.out h5 (has_nil _)); clear h5 ho5))
              | (go_at_call 10; go_loud (refine HX.out.mono ?_; rintro e6 w6 ⟨rfl, hq6⟩; have H6 := Lib.hid (H5.out.q hq6); have C6 := Lib.hid (C5.out.q hq6); have HQ6 := Lib.hid (HQ5.out.step hq6); clear hq6)))
            go_roundw
            case rel => exact ⟨k + 1, m, x, by omega, by omega, by omega, by go_num, rfl, by omega, by omega, Lib.hid ⟨H6.out, C6.out, HQ6.out⟩⟩
            case measure => simp only [intOf]; omega
        · have d5 : ((k : Int) % 5 == 4) = false := beq_eq_false_iff_ne.2 h5
          clear h5
          rcases Int.lt_or_le x y with hxy | hxy
          · skip
            have HR := Lib.hid (raise_up c0 s mb 0 m x y _ _ wq HK.out.2.1 HK.out.1 (has_nil _) (by omega) HD.out.1 HD.out.2.1 hxy hy1)
            have HMX : Hid (y = max x y) := Lib.hid (by omega)
            have d3 : decide (x < y) = true := decide_eq_true (by omega)
            go_wp2_with (first
              | (go_at_call 8; go_loud (refine HR.out.mono ?_; rintro e4 w4 ⟨rfl, h4, c4, ho4⟩; have H4 := Lib.hid h4; have C4 := Lib.hid c4; have HQ4 := Lib.hid (ho4.q HK.out.2.2 (fun k hk => by rcases hk with e | e; exact e ▸ HL1.out.1; exact e ▸ HD.out.2.2)); have HX := Lib.hid (read_on c0 s mb 0 _ _ _ _ _ w4 c4 h4 (has_nil _)); clear h4 c4 ho4))
              | ((with_reducible refine gate 66 rfl ?_); go_loud (refine wpList_max2 rfl (.tmp 64) (.tmp 65) _ rfl .i64 x y y rfl rfl HMX.out ?_))
              | (go_at_call 10; go_loud (refine HX.out.mono ?_; rintro e6 w6 ⟨rfl, hq6⟩; have H6 := Lib.hid (H4.out.q hq6); have C6 := Lib.hid (C4.out.q hq6); have HQ6 := Lib.hid (HQ4.out.step hq6); clear hq6)))
            go_roundw
            case rel => exact ⟨k + 1, m + 1, y, by omega, by omega, by omega, by go_num, rfl, by omega, by omega, Lib.hid ⟨H6.out, C6.out, HQ6.out⟩⟩
            case measure => simp only [intOf]; omega
          · skip
            have HR := Lib.hid (raise_no c0 s mb 0 m x y _ _ wq HK.out.2.1 HK.out.1 (has_nil _) (by omega) HD.out.1 HD.out.2.1 hxy)
            have HMX : Hid (x = max x y) := Lib.hid (by omega)
            have d3 : decide (x < y) = false := decide_eq_false (by omega)
            go_wp2_with (first
              | (go_at_call 8; go_loud (refine HR.out.mono ?_; rintro e4 w4 ⟨rfl, h4, c4, ho4⟩; have H4 := Lib.hid h4; have C4 := Lib.hid c4; have HQ4 := Lib.hid (ho4.q HK.out.2.2 (fun k hk => by rcases hk with e | e; exact e ▸ HL1.out.1; exact e ▸ HD.out.2.2)); have HX := Lib.hid (read_on c0 s mb 0 _ _ _ _ _ w4 c4 h4 (has_nil _)); clear h4 c4 ho4))
              | ((with_reducible refine gate 66 rfl ?_); go_loud (refine wpList_max2 rfl (.tmp 64) (.tmp 65) _ rfl .i64 x y x rfl rfl HMX.out ?_))
              | (go_at_call 10; go_loud (refine HX.out.mono ?_; rintro e6 w6 ⟨rfl, hq6⟩; have H6 := Lib.hid (H4.out.q hq6); have C6 := Lib.hid (C4.out.q hq6); have HQ6 := Lib.hid (HQ4.out.step hq6); clear hq6)))
            go_roundw
            case rel => exact ⟨k + 1, m, x, by omega, by omega, by omega, by go_num, rfl, by omega, by omega, Lib.hid ⟨H6.out, C6.out, HQ6.out⟩⟩
            case measure => simp only [intOf]; omega
      · have d2 : decide ((k : Int) < 60) = false := decide_eq_false (by omega)
        go_wp2
        go_ret
        exact ⟨rfl, HK.out.2.2⟩
    · have d1 : decide ((k : Int) < (n : Int)) = false := decide_eq_false (by omega)
      go_wp2
      go_ret
      exact ⟨rfl, HK.out.2.2⟩
end Go.Proofs.Ytffpaeljnfmmiaa
