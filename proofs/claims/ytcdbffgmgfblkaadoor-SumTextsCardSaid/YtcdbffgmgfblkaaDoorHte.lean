/- The walk through SumTexts. -/
import Derived.Test.YtcdbffgmgfblkaaDoorHtd
import Derived.Deep.DeepCutAuto
namespace Go.Proofs.YtcdbffgmgfblkaaDoor
set_option linter.unusedVariables false
set_option linter.unusedSimpArgs false
open Go.RowKit

section
variable {P : Program} {w : World} {ops : Array Oper} {rest : List Oper} {o : Oper} {a : Act} {K : Exit → Act → World → Prop}
theorem wpList_run_g {v : Value} (hwant : Region.wanted o (yielded ops a.tmps) = true) (hr : (execOp a.eval o).run P w = .ok (.value v) w) (hw : wpList P ops K rest (a.put o.dst v) w) : wpList P ops K (o :: rest) a w := by
  show (if Region.wanted o (yielded ops a.tmps) = true then _ else _)
  rw [if_pos hwant]
  refine .inl ?_
  unfold Oper.wp
  rw [hr]
  exact hw
theorem load_arr {w : World} {a : Act} {o : Oper} {g : Nat} {t : TypeId} {L : List Nat} (x : Operand) (ho : o.op = .load 28 x) (hx : a.eval x = .pointer (some ⟨g, 0, none⟩)) (hr : w.rowIs g t 32 (arrF L)) : (execOp a.eval o).run Tryd.prog w = .ok (.value (.agg (arrO L))) w :=
  exec_load_agg 28 x ho g 0 hx _ Tryd.underlying28 rfl 32 info32b (arrF L) (row_cells hr)
end

set_option maxHeartbeats 8000000 in
set_option maxRecDepth 100000 in
theorem sumTexts_walk (L : List Nat) (hb : ∀ x ∈ L, x ≤ 255) (hl : L.length = 32) (S : List Nat) (hS : ∀ x ∈ S, x ≤ 255) (w : World) (hG : Glob w) :
    Calls Tryd.prog 9 #[.agg (arrO L), .string (strB S)] w fun e w' => e = .returned (.bool true) ∧ Below w.heap.size w w' := by
  obtain ⟨i8, hi8, hz80, hz81, hz82⟩ := info_parts info8
  obtain ⟨n, hn⟩ : ∃ n, n = S.length := ⟨_, rfl⟩
  have hsz : (strB S).size = n := by rw [strB_size, hn]
  have HN := Lib.hid hn
  have HB := Lib.hid hb
  have HL := Lib.hid hl
  have HS := Lib.hid hS
  have HG := Lib.hid hG
  have HRH := Lib.hid (rd_hex hb hl)
  have HT1 : Hid (∀ wx, Calls Tryd.prog 24 #[.agg (arrO L)] wx fun e w' => e = .returned (.string (strB (hexL L))) ∧ Hid (Q wx w')) := fun wx => sumText_ok L HB.out HL.out wx
  have HT2 : Hid (∀ wx, Calls Tryd.prog 25 #[.string (strB (hexL L))] wx fun e w' => e = .returned (.tuple #[.agg (arrO L), .bool true]) ∧ Hid (Q wx w')) := fun wx => (read_ok (hexL L) (hexL_byte L) (by rw [hexL_len, HL.out]; omega) wx).mono fun e w' h => ⟨by rw [h.1, HRH.out.1, HRH.out.2], h.2⟩
  have HT3 : Hid (∀ wx, Calls Tryd.prog 17 #[.agg (arrO L)] wx fun e w' => e = .returned (.string (strB L)) ∧ Hid (Q wx w')) := fun wx => text_ok _ L wx (arrO_agg L) HL.out
  have HT4 : Hid (∀ wx, Calls Tryd.prog 26 #[.string (strB L)] wx fun e w' => e = .returned (.string (strB (hexL L))) ∧ Hid (Q wx w')) := fun wx => refText_ok L HB.out (by rw [HL.out]; omega) wx
  clear hb hl hS hG hn
  generalize hexL L = H at *
  go_enter Tryd.func9, Tryd.ntmps9
  go_upto_if 38 with (first
    | (refine gate 2 rfl ?_; refine wpList_box_row rfl 28 (.tmp 0) rfl _ rfl 32 _ (arrO_agg L) ?_; intro w1 hr1 hx1; have H1 : Hid (w1.rowIs w.heap.size 28 32 (arrF L) ∧ Q w w1) := ⟨hr1, hx1.q (Q.refl _)⟩; clear hr1 hx1)
    | (refine gate 11 rfl ?_; refine wpList_load_agg rfl 28 (.tmp 2) rfl w.heap.size 0 rfl _ Tryd.underlying28 rfl 32 info32b _ (row_cells H1.out.1) ?_; intro V hV; obtain rfl := arrO_eq hV; clear hV)
    | (go_at_call 24; (with_reducible refine (HT1.out _).mono ?_); rintro e w2 ⟨rfl, H2⟩)
    | (go_at_call 25; (with_reducible refine (HT2.out _).mono ?_); rintro e w3 ⟨rfl, H3⟩; have HQ3 : Hid (Q w1 w3) := H2.out.trans' H3.out)
    | (refine gate 6 rfl ?_; go_loud (refine wpList_alloc_row rfl 28 rfl _ (zero32 _) 32 _ rfl zer32_get ?_; intro w4 hr4 hx4; have H4 := Lib.hid (And.intro hr4 hx4); clear hr4 hx4))
    | (refine wpList_store_all rfl 28 (.tmp 6) (.tmp 16) rfl w3.heap.size rfl _ rfl 32 info32b _ (arrO_agg L) (fun i _ => rfl) 28 _ H4.out.1 ?_; intro w5 hr5 hp5; have H5 : Hid (w5.rowIs w3.heap.size 28 32 (arrF L) ∧ Q w3 w5 ∧ Q w1 w5) := ⟨hr5, hp5.q (H4.out.2.q (Q.refl _)) (Nat.le_refl _), hp5.q (H4.out.2.q HQ3.out) HQ3.out.size⟩; clear hr5 hp5)
    | (go_at_call 16; (with_reducible refine (sums_ok w5 (HG.out.q (H1.out.2.trans' H5.out.2.2))).mono ?_); rintro e w6 ⟨rfl, H6⟩)
    | (refine gate 22 rfl ?_; refine wpList_run_g (by rfl) (load_arr (.tmp 2) rfl rfl (row_q H6.out (row_q H5.out.2.2 H1.out.1))) ?_)
    | (go_at_call 17; (with_reducible refine (HT3.out _).mono ?_); rintro e w7 ⟨rfl, H7⟩)
    | (go_at_call 26; (with_reducible refine (HT4.out _).mono ?_); rintro e w8 ⟨rfl, H8⟩; have HQ8 : Hid (Q w5 w8) := H6.out.trans' (H7.out.trans' H8.out))
    | (refine gate 32 rfl ?_; refine wpList_run_g (by rfl) (load_arr (.tmp 6) rfl rfl (row_q HQ8.out H5.out.1)) ?_)
    | (refine gate 33 rfl ?_; refine wpList_run_g (by rfl) (load_arr (.tmp 2) rfl rfl (row_q HQ8.out (row_q H5.out.2.2 H1.out.1))) ?_)
    | (refine gate 34 rfl ?_; refine wpList_run_g (by rfl) (run_neq_same _ L HL.out _ _ _ _ rfl rfl rfl _) ?_))
  have HW1 : Hid (Q w w8) := H1.out.2.trans' (H5.out.2.2.trans' HQ8.out)
  clear H1 H2 H3 H4 H5 H6 H7 H8 HQ3 HQ8 HT1 HT2 HT3 HT4 HRH
  by_cases hn1 : 1000 < n
  · have t : decide ((1000 : Int) < (n : Int)) = true := by rw [decide_eq_true_iff]; omega
    go_wp2_with fail
    go_ret
    exact ⟨rfl, HW1.out⟩
  · have t : decide ((1000 : Int) < (n : Int)) = false := by rw [decide_eq_false_iff_not]; omega
    have HRD := Lib.hid (read_ok S HS.out (by rw [← HN.out]; omega) w8)
    have HRL := Lib.hid (rdL_len S)
    have HRB := Lib.hid (rdL_byte S)
    have HBT : Hid (rdOk S = true → hexL (rdL S) = S) := fun h => hex_rd HS.out h
    have HBF : Hid (rdOk S = false → rdL S = List.replicate 32 0) := fun h => by unfold rdL; rw [if_neg (by rw [h]; exact Bool.false_ne_true)]
    have HOK : Hid (rdOk S = (n == 64 && S.all isDig)) := by show _ = _; rw [HN.out]; rfl
    generalize rdL S = R at *
    generalize rdOk S = b at *
    go_wp2_with (first
      | (go_at_call 25; (with_reducible refine HRD.out.mono ?_); rintro e w9 ⟨rfl, H9⟩)
      | (refine gate 8 rfl ?_; go_loud (refine wpList_alloc_row rfl 28 rfl _ (zero32 _) 32 _ rfl zer32_get ?_; intro w10 hr10 hx10; have H10 := Lib.hid (And.intro hr10 hx10); clear hr10 hx10))
      | (refine wpList_store_all rfl 28 (.tmp 8) (.tmp 42) rfl w9.heap.size rfl _ rfl 32 info32b _ (arrO_agg R) (fun i _ => rfl) 28 _ H10.out.1 ?_; intro w11 hr11 hp11; have H11 : Hid (w11.rowIs w9.heap.size 28 32 (arrF R) ∧ Q w w11) := ⟨hr11, hp11.q (H10.out.2.q (HW1.out.trans' H9.out)) (HW1.out.trans' H9.out).size⟩; clear hr11 hp11))
    clear t HRD H10 H9 HW1
    obtain ⟨m64, hm64⟩ : ∃ m64, m64 = ((n : Int) == 64) := ⟨_, rfl⟩
    have HOK2 : Hid (b = (m64 && S.all isDig)) := by
      show _ = _
      rw [HOK.out, hm64]
      congr 1
      rw [Bool.eq_iff_iff, beq_iff_eq, beq_iff_eq]; omega
    rw [← hm64]
    have HM := Lib.hid hm64
    clear hm64 HOK
    have H0 : Hid (m64 = (m64 && (S.take 0).all isDig)) := by show _ = _; simp
    go_loopw [9, 10] (fun r i wr => ∃ (k : Nat) (q : Bool), k ≤ n ∧ i = .int .i64 k ∧ r = .bool q ∧ Hid (q = (m64 && (S.take k).all isDig)) ∧ w11 = wr) (fun _ i _ => n - (intOf i).toNat)
    case atStart => exact ⟨0, m64, by omega, rfl, rfl, H0, rfl⟩
    case round =>
      obtain ⟨k, q, hk, rfl, rfl, HQ, rfl⟩ := hrel
      by_cases hgo : k < n ∧ q = true
      · obtain ⟨hkn, rfl⟩ := hgo
        have hidx := run_index_strB (P := Tryd.prog) 9 Tryd.underlying9 S HS.out .i64 k (by rw [← HN.out]; exact hkn)
        have HNX : Hid (isDig (S.getD k 0) = (m64 && (S.take (k + 1)).all isDig)) := by
          show _ = _
          have hkl : k < S.length := by rw [← HN.out]; exact hkn
          have h1 := HQ.out
          rw [List.take_succ_eq_append_getElem hkl, List.all_append, ← Bool.and_assoc, ← h1, List.getD_eq_getElem?_getD, List.getElem?_eq_getElem hkl]; simp
        have hcb := getD_byte HS.out k
        generalize S.getD k 0 = c at *
        rcases (show c < 48 ∨ (48 ≤ c ∧ c ≤ 57) ∨ (58 ≤ c ∧ c < 97) ∨ (97 ≤ c ∧ c ≤ 102) ∨ 102 < c by omega) with hc | hc | hc | hc | hc
        all_goals
          have c1 : decide ((48 : Int) ≤ (c : Int)) = decide (48 ≤ c) := decide_eq_decide.2 (by omega)
          have c2 : decide ((c : Int) ≤ 57) = decide (c ≤ 57) := decide_eq_decide.2 (by omega)
          have c3 : decide ((97 : Int) ≤ (c : Int)) = decide (97 ≤ c) := decide_eq_decide.2 (by omega)
          have c4 : decide ((c : Int) ≤ 102) = decide (c ≤ 102) := decide_eq_decide.2 (by omega)
        · have d1 : decide (48 ≤ c) = false := decide_eq_false (by omega)
          have d3 : decide (97 ≤ c) = false := decide_eq_false (by omega)
          have HV : Hid (isDig c = false) := by show _ = _; unfold isDig ud; rw [if_neg (by omega), if_neg (by omega)]; rfl
          clear hc hcb
          go_wp2_with fail
          go_roundw
          case rel => exact ⟨k + 1, false, by omega, by go_num, rfl, by rw [← HV.out]; exact HNX, trivial⟩
          case measure => simp [intOf]; omega
        · have d1 : decide (48 ≤ c) = true := decide_eq_true (by omega)
          have d2 : decide (c ≤ 57) = true := decide_eq_true (by omega)
          have HV : Hid (isDig c = true) := by show _ = _; unfold isDig ud; rw [if_pos (by omega)]; rfl
          clear hc hcb
          go_wp2_with fail
          go_roundw
          case rel => exact ⟨k + 1, true, by omega, by go_num, rfl, by rw [← HV.out]; exact HNX, trivial⟩
          case measure => simp [intOf]; omega
        · have d1 : decide (48 ≤ c) = true := decide_eq_true (by omega)
          have d2 : decide (c ≤ 57) = false := decide_eq_false (by omega)
          have d3 : decide (97 ≤ c) = false := decide_eq_false (by omega)
          have HV : Hid (isDig c = false) := by show _ = _; unfold isDig ud; rw [if_neg (by omega), if_neg (by omega)]; rfl
          clear hc hcb
          go_wp2_with fail
          go_roundw
          case rel => exact ⟨k + 1, false, by omega, by go_num, rfl, by rw [← HV.out]; exact HNX, trivial⟩
          case measure => simp [intOf]; omega
        · have d1 : decide (48 ≤ c) = true := decide_eq_true (by omega)
          have d2 : decide (c ≤ 57) = false := decide_eq_false (by omega)
          have d3 : decide (97 ≤ c) = true := decide_eq_true (by omega)
          have d4 : decide (c ≤ 102) = true := decide_eq_true (by omega)
          have HV : Hid (isDig c = true) := by show _ = _; unfold isDig ud; rw [if_neg (by omega), if_pos (by omega)]; rfl
          clear hc hcb
          go_wp2_with fail
          go_roundw
          case rel => exact ⟨k + 1, true, by omega, by go_num, rfl, by rw [← HV.out]; exact HNX, trivial⟩
          case measure => simp [intOf]; omega
        · have d1 : decide (48 ≤ c) = true := decide_eq_true (by omega)
          have d2 : decide (c ≤ 57) = false := decide_eq_false (by omega)
          have d3 : decide (97 ≤ c) = true := decide_eq_true (by omega)
          have d4 : decide (c ≤ 102) = false := decide_eq_false (by omega)
          have HV : Hid (isDig c = false) := by show _ = _; unfold isDig ud; rw [if_neg (by omega), if_neg (by omega)]; rfl
          clear hc hcb
          go_wp2_with fail
          go_roundw
          case rel => exact ⟨k + 1, false, by omega, by go_num, rfl, by rw [← HV.out]; exact HNX, trivial⟩
          case measure => simp [intOf]; omega
      · have hqb : q = b := by
          by_cases hkn : k < n
          · have hq : q = false := by cases q; rfl; exact absurd ⟨hkn, rfl⟩ hgo
            rw [hq, HOK2.out]
            have h1 := HQ.out
            rw [hq] at h1
            cases hm : m64
            · rfl
            · rw [hm, Bool.true_and] at h1
              rw [Bool.true_and]
              symm
              rw [List.all_eq_false]
              rw [eq_comm, List.all_eq_false] at h1
              obtain ⟨x, hx, hd⟩ := h1
              exact ⟨x, List.mem_of_mem_take hx, hd⟩
          · rw [HOK2.out, HQ.out, List.take_of_length_le (by rw [← HN.out]; omega)]
        subst hqb
        have hz32 := zero32
        have hkd : decide ((k : Int) < (n : Int)) = decide (k < n) := decide_eq_decide.2 (by omega)
        have hand : (decide (k < n) && q) = false := by
          cases hq : q
          · simp
          · rw [Bool.and_true, decide_eq_false_iff_not]; exact fun h => hgo ⟨h, hq⟩
        cases q
        · have hR := HBF.out rfl
          subst hR
          by_cases hkn : k < n
          · have hk2 : (k : Int) < (n : Int) := by omega
            go_wp2_with (first
              | (refine gate 85 rfl ?_; refine wpList_run_g (by rfl) (load_arr (.tmp 8) rfl rfl H11.out.1) ?_)
              | (refine gate 87 rfl ?_; refine wpList_run_g (by rfl) (run_eq_same _ (List.replicate 32 0) (by simp) _ _ _ _ rfl rfl (congrArg Value.agg zer32_arr) _) ?_))
            go_ret
            exact ⟨rfl, H11.out.2⟩
          · have hk2 : ¬ (k : Int) < (n : Int) := by omega
            go_wp2_with (first
              | (refine gate 85 rfl ?_; refine wpList_run_g (by rfl) (load_arr (.tmp 8) rfl rfl H11.out.1) ?_)
              | (refine gate 87 rfl ?_; refine wpList_run_g (by rfl) (run_eq_same _ (List.replicate 32 0) (by simp) _ _ _ _ rfl rfl (congrArg Value.agg zer32_arr) _) ?_))
            go_ret
            exact ⟨rfl, H11.out.2⟩
        · have hk2 : ¬ (k : Int) < (n : Int) := by intro h; exact hgo ⟨by omega, rfl⟩
          have HTX : Hid (∀ wx, Calls Tryd.prog 24 #[.agg (arrO R)] wx fun e w' => e = .returned (.string (strB S)) ∧ Hid (Q wx w')) := fun wx => (sumText_ok R HRB.out HRL.out wx).mono fun e w' h => ⟨by rw [h.1, HBT.out rfl], h.2⟩
          go_wp2_with (first
            | (refine gate 92 rfl ?_; refine wpList_run_g (by rfl) (load_arr (.tmp 8) rfl rfl H11.out.1) ?_)
            | (go_at_call 24; (with_reducible refine (HTX.out _).mono ?_); rintro e w12 ⟨rfl, H12⟩))
          go_ret
          exact ⟨rfl, H11.out.2.trans' H12.out⟩
end Go.Proofs.YtcdbffgmgfblkaaDoor
