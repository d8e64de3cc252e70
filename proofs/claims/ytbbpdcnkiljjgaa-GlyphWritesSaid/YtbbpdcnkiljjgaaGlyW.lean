/- GlyphWrites. -/
import Derived.Test.YtbbpdcnkiljjgaaGlyT
import Derived.Deep.DeepCutAuto
namespace Go.Proofs.Ytbbpdcnkiljjgaa
set_option linter.unusedVariables false
set_option linter.unusedSimpArgs false
open Go.RowKit

/-- What holds at a round's head: k things were written. -/
structure Wrote (w1 wr : World) (g k e : Nat) (L W : List Nat) : Prop where
  out : OutN w1 wr g (e, L) (1 + 2 * k)
  same : e = 0 → W = L
  len : W.length ≤ 300000 * (k + 1)

set_option maxHeartbeats 16000000 in
set_option maxRecDepth 100000 in
theorem writes_ok (kk : Nat) (hkk : kk ≤ 255) (A : Option Addr) (n c : Nat) (ts : List Thing) (w : World) (hn : n ≤ 9223372036854775807) (hl : n ≤ ts.length) (hs : SeesP w (· < w.heap.size) A (ts.flatMap thingC)) (hm : ∀ t ∈ ts, t.2.2.size ≤ 9223372036854775807) :
    Calls Try.prog 3 #[.int .u8 (kk : Int), .slice A n c] w fun e w' => e = .returned (.bool true) ∧ Hid (Q w w') := by
  have hb := fun w => Lib.hid (beginZ w kk kk rfl hkk)
  have hrb := fun w => Lib.hid (rbegin_ok kk hkk w)
  have hgl := fun w => Lib.hid (glyphs_ok w)
  have hno := fun w => Lib.hid (none_ok w)
  have hbn := fun w => Lib.hid (bytes_nil w)
  have HL := Lib.hid hl
  have HS := Lib.hid hs
  have HM := Lib.hid hm
  clear hl hs hm
  go_enter Try.func3, Try.ntmps3
  go_wp2_with (first
    | (go_at_call 8; go_loud ((with_reducible refine (hno _).out.mono ?_); rintro e w1 ⟨rfl, rfl⟩))
    | (go_at_call 9; go_loud ((with_reducible refine (hbn _).out.mono ?_); rintro e w1 ⟨rfl, rfl⟩))
    | (go_at_call 10; go_loud ((with_reducible refine (hgl _).out.mono ?_); rintro e w1 ⟨rfl, HG⟩))
    | (go_at_call 11; go_loud ((with_reducible refine (hb _).out.mono ?_); rintro e w2 ⟨g, rfl, H2⟩))
    | (go_at_call 12; go_loud ((with_reducible refine (hrb _).out.mono ?_); rintro e w3 ⟨rfl, h3⟩; have H3 := Lib.hid h3; clear h3)))
  have H0 : Hid (Wrote w1 w3 g 0 0 [72, 89, kk] [72, 89, kk]) := ⟨H2.out.q H3.out, fun _ => rfl, by simp⟩
  go_loopw [7, 8, 9, 10] (fun o s e i wr => ∃ (k e0 : Nat) (L W : List Nat), k ≤ n ∧ Hid (k ≤ 60) ∧ o = .pointer (some ⟨g, 0, none⟩) ∧ s = .string (strB W) ∧ e = .int .i64 (e0 : Int) ∧ i = .int .i64 k ∧ Hid (Wrote w1 wr g k e0 L W)) (fun _ _ _ i _ => n - (intOf i).toNat)
  case atStart => exact ⟨0, 0, _, _, by omega, (show 0 ≤ 60 by omega), rfl, rfl, rfl, rfl, H0.out⟩
  case round =>
    obtain ⟨k, e0, L, W, hk, HK60, rfl, rfl, rfl, rfl, HW⟩ := hrel
    by_cases hlt : k < n ∧ k < 60
    · obtain ⟨hkn, hk60⟩ := hlt
      have hkl : k < ts.length := Nat.lt_of_lt_of_le hkn HL.out
      have HQ1 : Hid (Q w wr) := by obtain ⟨_, _, h2, _⟩ := HW.out.out; exact HG.out.trans' h2
      have hat := fun j (hj : j < 3) => flat_at (f := thingC) (size := 3) ts (fun _ _ => rfl) k j hkl hj
      have hsee := HS.out.below HQ1.out
      obtain ⟨bb, oo, rfl, hbb, hc0⟩ := hsee.at_ (k := k * 3 + 0) (hat 0 (by omega))
      obtain ⟨_, _, e', _, hc1⟩ := hsee.at_ (k := k * 3 + 1) (hat 1 (by omega))
      injection e' with e'; injection e' with e1 e2 _; subst e1 e2
      obtain ⟨_, _, e', _, hc2⟩ := hsee.at_ (k := k * 3 + 2) (hat 2 (by omega))
      injection e' with e'; injection e' with e1 e2 _; subst e1 e2
      have htm := HM.out ts[k] (List.getElem_mem hkl)
      clear hsee hat hbb
      generalize ts[k] = tt at *
      obtain ⟨t0, t1, t2⟩ := tt
      have hd0 : wr.cell? ⟨bb, oo + k * 3, none⟩ = some (.int .i64 t0) := hc0
      have hd1 : wr.cell? ⟨bb, oo + k * 3 + 1, none⟩ = some (.int .i64 t1) := hc1
      have hd2 : wr.cell? ⟨bb, oo + k * 3 + 2, none⟩ = some (.string t2) := hc2
      have htm : t2.size ≤ 9223372036854775807 := htm
      clear hc0 hc1 hc2
      have hMx := HW.out.len
      have HK1 : Hid (k + 1 ≤ 60) := by show _ ≤ _; omega
      by_cases hbig : 200000 < t2.size
      · go_wp2_with fail
        go_roundw
        case rel => exact ⟨k + 1, e0, L, W, by omega, HK1, rfl, rfl, rfl, by go_num, (HW.out.out.more (by omega)).q ((Q.refl _).alloc _), HW.out.same, by omega⟩
        case measure => simp [intOf]; omega
      · obtain ⟨kd, hkd0⟩ : ∃ kd, kd = kindOf t0 := ⟨_, rfl⟩
        have hkd4 : kd < 4 := by rw [hkd0]; unfold kindOf; omega
        have hkd := fun w => kind_ok t0 t1 t2 w
        rw [← hkd0] at hkd
        clear hkd0
        have hc100 : 1 + 2 * k ≤ 100000 := by omega
        have HO := Lib.hid HW.out.out
        by_cases h0 : kd = 0
        · subst h0
          have HKD : Hid (∀ w, Calls Try.prog 13 #[.agg #[.int .i64 t0, .int .i64 t1, .string t2]] w fun e w' => e = .returned (.int .i64 0) ∧ Q w w') := hkd
          clear hkd hkd4
          by_cases he : e0 = 0
          · subst he
            by_cases hlo : t1 < 0
            · have HNS : Hid (numStep (0, L) t1 = (1, L)) := by show _ = _; unfold numStep; rw [if_pos rfl, if_neg (by omega)]
              go_wp2_with (first
                | (go_at_call 13; go_loud ((with_reducible refine (HKD.out _).mono ?_); rintro e w4 ⟨rfl, h4⟩; obtain ⟨x, x0, x1, x2⟩ := thing_new h4; have H4 := Lib.hid h4; clear h4))
                | (go_at_call 14; go_loud ((with_reducible refine (num2 HO (((Q.refl wr).alloc _).trans' H4.out) t1 hc100).mono ?_); rintro e w5 ⟨rfl, H5⟩; have y1 := thing_past H5.out.2.1 x x1)))
              go_roundw
              case rel => exact ⟨k + 1, 1, L, W, by omega, HK1, rfl, rfl, rfl, by go_num, by have h := H5.out.1; rw [HNS.out] at h; exact ⟨(h.more (by omega)), by omega, by omega⟩⟩
              case measure => simp [intOf]; omega

            · by_cases hhi : 4611686018427387904 ≤ t1
              · have HNS : Hid (numStep (0, L) t1 = (1, L)) := by show _ = _; unfold numStep; rw [if_pos rfl, if_neg (by omega)]
                have hdh : decide ((4611686018427387904 : Int) ≤ t1) = true := by rw [decide_eq_true_iff]; exact hhi
                go_wp2_with (first
                  | (go_at_call 13; go_loud ((with_reducible refine (HKD.out _).mono ?_); rintro e w4 ⟨rfl, h4⟩; obtain ⟨x, x0, x1, x2⟩ := thing_new h4; have H4 := Lib.hid h4; clear h4))
                  | (go_at_call 14; go_loud ((with_reducible refine (num2 HO (((Q.refl wr).alloc _).trans' H4.out) t1 hc100).mono ?_); rintro e w5 ⟨rfl, H5⟩; have y1 := thing_past H5.out.2.1 x x1)))
                go_roundw
                case rel => exact ⟨k + 1, 1, L, W, by omega, HK1, rfl, rfl, rfl, by go_num, by have h := H5.out.1; rw [HNS.out] at h; exact ⟨(h.more (by omega)), by omega, by omega⟩⟩
                case measure => simp [intOf]; omega

              · have HNS : Hid (numStep (0, L) t1 = (0, L ++ numL t1.toNat)) := by show _ = _; unfold numStep; rw [if_pos rfl, if_pos (by omega)]
                have hdh : decide ((4611686018427387904 : Int) ≤ t1) = false := by rw [decide_eq_false_iff_not]; exact hhi
                have hN9 : (numL t1.toNat).length ≤ 9 := numL_nine (by omega)
                have hadd := run_add_strB (P := Try.prog) W (numL t1.toNat) (by omega)
                have HRN : Hid (∀ w, Calls Try.prog 15 #[.int .i64 t1] w (GivesStr w (numL t1.toNat))) := fun w => rnumZ t1 w (by omega) (by omega)
                clear hhi
                go_wp2_with (first
                  | (go_at_call 13; go_loud ((with_reducible refine (HKD.out _).mono ?_); rintro e w4 ⟨rfl, h4⟩; obtain ⟨x, x0, x1, x2⟩ := thing_new h4; have H4 := Lib.hid h4; clear h4))
                  | (go_at_call 14; go_loud ((with_reducible refine (num2 HO (((Q.refl wr).alloc _).trans' H4.out) t1 hc100).mono ?_); rintro e w5 ⟨rfl, H5⟩; have y1 := thing_past H5.out.2.1 x x1))
                  | (go_at_call 15; go_loud ((with_reducible refine (HRN.out _).mono ?_); rintro e w6 ⟨rfl, h6⟩; have H6 := Lib.hid h6; clear h6)))
                go_roundw
                case rel => exact ⟨k + 1, 0, L ++ numL t1.toNat, W ++ numL t1.toNat, by omega, HK1, rfl, rfl, rfl, by go_num, by have h := H5.out.1; rw [HNS.out] at h; exact ⟨(h.more (by omega)).q H6.out, fun _ => by rw [HW.out.same rfl], by rw [List.length_append]; omega⟩⟩
                case measure => simp [intOf]; omega

          · have HNS : Hid (numStep (e0, L) t1 = (e0, L)) := if_neg he
            have d : ((e0 : Int) == 0) = false := beq_eq_false_iff_ne.2 (by omega)
            have d' : ((e0 : Int) != 0) = true := bne_iff_ne.2 (by omega)
            have HE0 := Lib.hid he
            clear he
            go_wp2_with (first
              | (go_at_call 13; go_loud ((with_reducible refine (HKD.out _).mono ?_); rintro e w4 ⟨rfl, h4⟩; obtain ⟨x, x0, x1, x2⟩ := thing_new h4; have H4 := Lib.hid h4; clear h4))
              | (go_at_call 14; go_loud ((with_reducible refine (num2 HO (((Q.refl wr).alloc _).trans' H4.out) t1 hc100).mono ?_); rintro e w5 ⟨rfl, H5⟩; have y1 := thing_past H5.out.2.1 x x1)))
            go_roundw
            case rel => exact ⟨k + 1, e0, L, W, by omega, HK1, rfl, rfl, rfl, by go_num, by have h := H5.out.1; rw [HNS.out] at h; exact ⟨(h.more (by omega)), fun h => absurd h HE0.out, by omega⟩⟩
            case measure => simp [intOf]; omega

        · by_cases h1 : kd = 1
          · subst h1
            have HKD : Hid (∀ w, Calls Try.prog 13 #[.agg #[.int .i64 t0, .int .i64 t1, .string t2]] w fun e w' => e = .returned (.int .i64 1) ∧ Q w w') := hkd
            clear hkd hkd4
            by_cases he : e0 = 0
            · subst he
              by_cases hsz : 131072 < t2.size
              · have HNS : Hid (textStep (0, L) t2 = (4, L)) := by show _ = _; unfold textStep; rw [if_pos rfl, if_neg (by omega)]
                go_wp2_with (first
                  | (go_at_call 13; go_loud ((with_reducible refine (HKD.out _).mono ?_); rintro e w4 ⟨rfl, h4⟩; obtain ⟨x, x0, x1, x2⟩ := thing_new h4; have H4 := Lib.hid h4; clear h4))
                  | (go_at_call 16; go_loud ((with_reducible refine (text2 HO (((Q.refl wr).alloc _).trans' H4.out) t2 hc100 htm).mono ?_); rintro e w5 ⟨rfl, H5⟩; have y2 := thing_past H5.out.2.1 x x2)))
                go_roundw
                case rel => exact ⟨k + 1, 4, L, W, by omega, HK1, rfl, rfl, rfl, by go_num, by have h := H5.out.1; rw [HNS.out] at h; exact ⟨(h.more (by omega)), by omega, by omega⟩⟩
                case measure => simp [intOf]; omega

              · have HNS : Hid (textStep (0, L) t2 = (0, L ++ (numL t2.size ++ bytesOf t2))) := by show _ = _; unfold textStep; rw [if_pos rfl, if_pos (by omega)]
                have hN9 : (numL t2.size ++ bytesOf t2).length ≤ 200009 := by have := numL_nine (n := t2.size) (by omega); rw [List.length_append, bytesOf_len]; omega
                have hadd := run_add_strB (P := Try.prog) W (numL t2.size ++ bytesOf t2) (by omega)
                have HRN : Hid (∀ w, Calls Try.prog 17 #[.string t2] w (GivesStr w (numL t2.size ++ bytesOf t2))) := fun w => rtext_ok t2 (by omega) w
                go_wp2_with (first
                  | (go_at_call 13; go_loud ((with_reducible refine (HKD.out _).mono ?_); rintro e w4 ⟨rfl, h4⟩; obtain ⟨x, x0, x1, x2⟩ := thing_new h4; have H4 := Lib.hid h4; clear h4))
                  | (go_at_call 16; go_loud ((with_reducible refine (text2 HO (((Q.refl wr).alloc _).trans' H4.out) t2 hc100 htm).mono ?_); rintro e w5 ⟨rfl, H5⟩; have y2 := thing_past H5.out.2.1 x x2))
                  | (go_at_call 17; go_loud ((with_reducible refine (HRN.out _).mono ?_); rintro e w6 ⟨rfl, h6⟩; have H6 := Lib.hid h6; clear h6)))
                go_roundw
                case rel => exact ⟨k + 1, 0, L ++ (numL t2.size ++ bytesOf t2), W ++ (numL t2.size ++ bytesOf t2), by omega, HK1, rfl, rfl, rfl, by go_num, by have h := H5.out.1; rw [HNS.out] at h; exact ⟨(h.more (by omega)).q H6.out, fun _ => by rw [HW.out.same rfl], by rw [List.length_append]; omega⟩⟩
                case measure => simp [intOf]; omega

            · have HNS : Hid (textStep (e0, L) t2 = (e0, L)) := if_neg he
              have d : ((e0 : Int) == 0) = false := beq_eq_false_iff_ne.2 (by omega)
              have d' : ((e0 : Int) != 0) = true := bne_iff_ne.2 (by omega)
              have HE0 := Lib.hid he
              clear he
              go_wp2_with (first
                | (go_at_call 13; go_loud ((with_reducible refine (HKD.out _).mono ?_); rintro e w4 ⟨rfl, h4⟩; obtain ⟨x, x0, x1, x2⟩ := thing_new h4; have H4 := Lib.hid h4; clear h4))
                | (go_at_call 16; go_loud ((with_reducible refine (text2 HO (((Q.refl wr).alloc _).trans' H4.out) t2 hc100 htm).mono ?_); rintro e w5 ⟨rfl, H5⟩; have y2 := thing_past H5.out.2.1 x x2)))
              go_roundw
              case rel => exact ⟨k + 1, e0, L, W, by omega, HK1, rfl, rfl, rfl, by go_num, by have h := H5.out.1; rw [HNS.out] at h; exact ⟨(h.more (by omega)), fun h => absurd h HE0.out, by omega⟩⟩
              case measure => simp [intOf]; omega

          · by_cases h2 : kd = 2
            · subst h2
              have HKD : Hid (∀ w, Calls Try.prog 13 #[.agg #[.int .i64 t0, .int .i64 t1, .string t2]] w fun e w' => e = .returned (.int .i64 2) ∧ Q w w') := hkd
              clear hkd hkd4
              obtain ⟨y, hy⟩ : ∃ y, (t1.tmod 2 != 0) = y := ⟨_, rfl⟩
              have hfl := fun wa h => Lib.hid (flag2 (wr := wr) (w := wa) HO h y hc100)
              cases y
              · have hadd : ∀ w, (Op.stringOp .add (strB W) ⟨#[0]⟩).run Try.prog w = .ok (.string (strB (W ++ [0]))) w := run_add_strB (P := Try.prog) W [0] (by simp; omega)
                go_wp2_with (first
                  | (go_at_call 13; go_loud ((with_reducible refine (HKD.out _).mono ?_); rintro e w4 ⟨rfl, h4⟩; obtain ⟨x, x0, x1, x2⟩ := thing_new h4; have H4 := Lib.hid h4; clear h4))
                  | (go_at_call 18; go_loud ((with_reducible refine (hfl _ (((Q.refl wr).alloc _).trans' H4.out)).out.mono ?_); rintro e w5 ⟨rfl, H5⟩; have y1 := thing_past H5.out.2.1 x x1)))
                go_roundw
                case rel => exact ⟨k + 1, e0, if e0 = 0 then L ++ [0] else L, W ++ [0], by omega, HK1, rfl, rfl, rfl, by go_num, by have h := H5.out.1; unfold flagStep at h; rw [rawStep_e] at h; exact h.more (by omega), fun h => by rw [if_pos h, HW.out.same h], by simp; omega⟩
                case measure => simp [intOf]; omega
              · have hadd : ∀ w, (Op.stringOp .add (strB W) ⟨#[1]⟩).run Try.prog w = .ok (.string (strB (W ++ [1]))) w := run_add_strB (P := Try.prog) W [1] (by simp; omega)
                go_wp2_with (first
                  | (go_at_call 13; go_loud ((with_reducible refine (HKD.out _).mono ?_); rintro e w4 ⟨rfl, h4⟩; obtain ⟨x, x0, x1, x2⟩ := thing_new h4; have H4 := Lib.hid h4; clear h4))
                  | (go_at_call 18; go_loud ((with_reducible refine (hfl _ (((Q.refl wr).alloc _).trans' H4.out)).out.mono ?_); rintro e w5 ⟨rfl, H5⟩; have y1 := thing_past H5.out.2.1 x x1)))
                go_roundw
                case rel => exact ⟨k + 1, e0, if e0 = 0 then L ++ [1] else L, W ++ [1], by omega, HK1, rfl, rfl, rfl, by go_num, by have h := H5.out.1; unfold flagStep at h; rw [rawStep_e] at h; exact h.more (by omega), fun h => by rw [if_pos h, HW.out.same h], by simp; omega⟩
                case measure => simp [intOf]; omega
            · have h3 : kd = 3 := by omega
              subst h3
              have HKD : Hid (∀ w, Calls Try.prog 13 #[.agg #[.int .i64 t0, .int .i64 t1, .string t2]] w fun e w' => e = .returned (.int .i64 3) ∧ Q w w') := hkd
              clear hkd hkd4
              have hadd : ∀ w, (Op.stringOp .add (strB W) t2).run Try.prog w = .ok (.string (strB (W ++ bytesOf t2))) w := fun w => by
                have h := run_add_strB (P := Try.prog) W (bytesOf t2) (by rw [bytesOf_len]; omega) w
                rw [strB_bytesOf] at h; exact h
              go_wp2_with (first
                | (go_at_call 13; go_loud ((with_reducible refine (HKD.out _).mono ?_); rintro e w4 ⟨rfl, h4⟩; obtain ⟨x, x0, x1, x2⟩ := thing_new h4; have H4 := Lib.hid h4; clear h4))
                | (refine gate 118 rfl ?_; go_loud (refine wpList_bytes_str rfl 9 23 5 (.tmp 117) rfl Try.underlying9 Try.underlying23 Try.underlying5 t2 rfl ?_; intro cb wb hb1 hb2 hb3 hb4; have HB := Lib.hid (And.intro hb1 (And.intro hb2 hb3)); clear hb1 hb2 hb3 hb4))
                | (go_at_call 19; go_loud ((with_reducible refine (raw2 HO (((Q.refl wr).alloc _).trans' H4.out) HB.out.2.1 t2.size cb (bytesOf t2) (bytesOf_len t2) HB.out.1 HB.out.2.2 (bytesOf_byte t2) (by omega) hc100).mono ?_); rintro e w5 ⟨rfl, H5⟩; have y2 := thing_past H5.out.2.1 (by rw [HB.out.2.2]; omega) ((Below.cell (p := ⟨wr.heap.size, 2, none⟩) HB.out.2.1 x).trans x2))))
              go_roundw
              case rel => exact ⟨k + 1, e0, if e0 = 0 then L ++ bytesOf t2 else L, W ++ bytesOf t2, by omega, HK1, rfl, rfl, rfl, by go_num, by have h := H5.out.1; rw [rawStep_e] at h; exact h.more (by omega), fun h => by rw [if_pos h, HW.out.same h], by rw [List.length_append, bytesOf_len]; omega⟩
              case measure => simp [intOf]; omega
    · have hnot : k < n → ¬ k < 60 := fun h1 h2 => hlt ⟨h1, h2⟩
      have hcase : ¬ k < n ∨ (k < n ∧ ¬ k < 60) := by omega
      have hk60 : k ≤ 60 := HK60.out
      have hby := Lib.hid (bytes1 (w := wr) (Lib.hid HW.out.out) (by omega))
      clear hlt hnot
      by_cases he : e0 = 0
      · subst he
        have HWL : Hid (W = L) := HW.out.same rfl
        have hby2 : Hid (Calls Try.prog 9 #[.pointer (some ⟨g, 0, none⟩)] wr fun e w' => ∃ A cp n, e = .returned (.tuple #[.slice A n cp, .int .i64 0]) ∧ Hid (n = L.length) ∧ Hid (GotB w1 w' L (.slice A n cp))) := hby.out
        rcases hcase with h1 | ⟨h1, h2⟩
        all_goals
          go_wp2_with (go_at_call 9; go_loud ((with_reducible refine hby2.out.mono ?_); rintro e w2 ⟨A2, cp2, n2, rfl, N2, X2⟩; have hk := X2.out.string N2.out.symm; rw [← HWL.out] at hk))
          go_ret
          exact ⟨rfl, Lib.hid (HG.out.trans' X2.out.2.1)⟩
      · have hby2 : Hid (Calls Try.prog 9 #[.pointer (some ⟨g, 0, none⟩)] wr fun e w' => ∃ A cp, e = .returned (.tuple #[.slice A 0 cp, .int .i64 (e0 : Int)]) ∧ Hid (Q w1 w')) := hby.out.mono (by
          rintro e w' ⟨A, cp, n, h1, h2, h3⟩
          have hn0 : n = 0 := by have h2 := h2.out; unfold outB at h2; rw [if_neg he] at h2; exact h2
          subst hn0
          exact ⟨A, cp, h1, h3.out.2.1⟩)
        have d : ((e0 : Int) == 0) = false := beq_eq_false_iff_ne.2 (by omega)
        have d' : ((e0 : Int) != 0) = true := bne_iff_ne.2 (by omega)
        clear he
        rcases hcase with h1 | ⟨h1, h2⟩
        all_goals
          go_wp2_with (go_at_call 9; go_loud ((with_reducible refine hby2.out.mono ?_); rintro e w2 ⟨A2, cp2, rfl, X2⟩))
          go_ret
          exact ⟨rfl, Lib.hid (HG.out.trans' X2.out)⟩
theorem writes_true (k : Int) (hk : (Lit.int .u8 k).wf = true) (A : Option Addr) (n c : Nat) (ts : List Thing) (w : World) (h : RowOfR w 3 ThingR A n c ts) :
    Calls Try.prog 3 #[.int .u8 k, .slice A n c] w fun e w' => e = .returned (.bool true) ∧ Below w.heap.size w w' := by
  obtain ⟨k0, k1⟩ := wf8 hk
  obtain ⟨kk, rfl⟩ := Int.eq_ofNat_of_zero_le k0
  have hmax := h.max
  have hle := h.le
  unfold maxLen at hmax
  refine (writes_ok kk (by omega) A n c ts w (by omega) (by rw [h.len]; exact h.le) (h.sees thingC fun cs a hr => hr.1) (fun t ht => ?_)).mono fun e w' ⟨h1, h2⟩ => ⟨h1, h2.out⟩
  obtain ⟨cs, hr⟩ := h.all t ht
  have := hr.2.2.2
  unfold maxLen at this
  omega
end Go.Proofs.Ytbbpdcnkiljjgaa
