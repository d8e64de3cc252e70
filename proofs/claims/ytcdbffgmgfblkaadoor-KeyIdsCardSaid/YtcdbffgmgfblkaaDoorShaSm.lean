/- SumSame. -/
import Derived.Test.YtcdbffgmgfblkaaDoorShaS
import Derived.Test.YtcdbffgmgfblkaaDoorRowb
namespace Go.Proofs.YtcdbffgmgfblkaaDoor
set_option linter.unusedVariables false
set_option linter.unusedSimpArgs false
open Go.RowKit

theorem beq_strs {L M : List Nat} (hL : ∀ x ∈ L, x ≤ 255) (hM : ∀ x ∈ M, x ≤ 255) : ((strB L).toList == (strB M).toList) = decide (L = M) := by
  rw [beq_strB, bytesOf_strB hL, bytesOf_strB hM]
theorem infoRow8 : (Tryd.prog.info? 22).map (fun i => (i.zero, i.size, i.bytes)) = some (some (.slice none 0 0), 1, 24) := by kernel_rfl

set_option maxHeartbeats 8000000 in
set_option maxRecDepth 100000 in
theorem sumSame_walk (A0 : Option Addr) (n0 c0 : Nat) (L : List Nat) (A : Option Addr) (n c : Nat) (parts : List (Value × List Nat)) (w : World) (hG : Glob w) (hnc0 : n0 ≤ c0) (hcm0 : c0 ≤ 9223372036854775807) (hl : L.length = min n0 3000) (hs0 : Sees w w.heap.size A0 (L.map B8)) (hb0 : ∀ x ∈ L, x ≤ 255)
    (hr : RowB w A n c parts) : Calls Tryd.prog 4 #[.slice A0 n0 c0, .slice A n c] w fun e w' => e = .returned (.bool true) ∧ Below w.heap.size w w' := by
  obtain ⟨i0, hi, hz0, hz1, hz2⟩ := info_parts infoRow8
  obtain ⟨m, hm⟩ : ∃ m, m = min n0 3000 := ⟨_, rfl⟩
  obtain ⟨q, hq⟩ : ∃ q, q = min n 9 := ⟨_, rfl⟩
  have hby := Lib.hid (fun w => lawBytes A0 n0 c0 w hnc0 hcm0)
  rw [← hm] at hl hby
  have hrl := hr.le
  have hqc : q ≤ c := by omega
  have hql : (parts.take q).length = q := by rw [List.length_take, hr.len]; omega
  have hq9 : q ≤ 9 := by omega
  have hm3 : m ≤ 3000 := by omega
  have hcm := hr.max
  obtain ⟨P, hP⟩ : ∃ P, P = parts.take q := ⟨_, rfl⟩
  have hps : Sees w w.heap.size A (P.map (·.1)) := by rw [hP, List.map_take]; exact hr.sees.take q
  have hpp : PartsB w (· < w.heap.size) P := by rw [hP]; exact hr.prt.take q
  rw [← hP] at hql
  have HG := Lib.hid hG
  have HL := Lib.hid hl
  have HS0 := Lib.hid hs0
  have HB0 := Lib.hid hb0
  have HPS := Lib.hid hps
  have HPP := Lib.hid hpp
  have HQL := Lib.hid hql
  have HQM := Lib.hid hq
  clear hG hl hs0 hb0 hr hP hps hpp hql hm hrl hq
  go_enter Tryd.func4, Tryd.ntmps4
  have f1 : (0 : Int) ≤ (q : Int) := Int.natCast_nonneg _
  have f2 : (q : Int) ≤ (c : Int) := by omega
  have f3 : (if (9 : Int) < (n : Int) then 9 else (n : Int)) = (q : Int) := by have := HQM.out; split <;> omega
  go_wp2
  go_quiet ((go_at_call 14; (with_reducible exact quiet_same (hby.out _))))
  have HQ0 : Hid (Q w (w.drewN nq)) := (Q.refl w).drewN nq
  generalize w.drewN nq = wa at *
  go_wp2
  have H0 : Hid ((true = true ↔ ∀ z ∈ P.take 0, z.2 = L)) := by show _ ↔ _; simp
  go_loopw [5, 6] (fun b i wr => ∃ (k : Nat) (r : Bool), k ≤ q ∧ b = .bool r ∧ i = .int .i64 k ∧ Hid (Q w wr) ∧ Hid (r = true ↔ ∀ z ∈ P.take k, z.2 = L)) (fun _ i _ => q - (intOf i).toNat)
  case atStart => exact ⟨0, true, by omega, rfl, rfl, HQ0, H0⟩
  case round =>
    obtain ⟨k, r, hk, rfl, rfl, HQ, HW⟩ := hrel
    by_cases hkq : k < q
    · have hkl : k < P.length := by rw [HQL.out]; exact hkq
      obtain ⟨B, z, kc, hz, hzl, hzs, hzb⟩ := HPP.out P[k] (List.getElem_mem hkl)
      obtain ⟨bb, oo, rfl, hbb, hc⟩ := (HPS.out.below HQ.out).at_ (k := k) (u := P[k].1) (by simp [hkl])
      rw [hz] at hc
      obtain ⟨M, hM⟩ : ∃ M, M = P[k].2 := ⟨_, rfl⟩
      rw [← hM] at hzl hzs hzb
      have HNX : Hid ((∀ z ∈ P.take (k + 1), z.2 = L) ↔ (∀ z ∈ P.take k, z.2 = L) ∧ L = M) := by
        show _ ↔ _
        rw [List.take_succ_eq_append_getElem hkl, hM]
        simp only [List.mem_append, List.mem_singleton]
        exact ⟨fun h => ⟨fun z hz => h z (.inl hz), (h _ (.inr rfl)).symm⟩, fun h z hz => hz.elim (h.1 z) fun e => by rw [e]; exact h.2.symm⟩
      have hc1 : ∀ s, (convert 22 9 (.slice A0 m c0)).run Tryd.prog (wr.drewN s) = .ok (.string (strB L)) (wr.drewN s) := fun s =>
        run_convert_sees _ _ _ _ Tryd.underlying22 Tryd.underlying5 Tryd.underlying9 _ A0 m c0 L HL.out ((HS0.out.below HQ.out).drewN s)
      have hc2 : ∀ s, (convert 22 9 (.slice B z kc)).run Tryd.prog (wr.drewN s) = .ok (.string (strB M)) (wr.drewN s) := fun s =>
        run_convert_sees _ _ _ _ Tryd.underlying22 Tryd.underlying5 Tryd.underlying9 _ B z kc M hzl ((hzs.below HQ.out).drewN s)
      have hbe := beq_strs HB0.out hzb
      obtain ⟨u, hu⟩ : ∃ u, u = decide (L = M) := ⟨_, rfl⟩
      rw [← hu] at hbe
      have HU : Hid (u = true ↔ L = M) := by show _ ↔ _; rw [hu]; exact decide_eq_true_iff
      clear hz hzl hzs hzb hbb hM hu
      rcases r with _ | _
      all_goals
        go_wp2
        go_quiet (fail)
        go_wp2
        go_roundw
        case measure => simp [intOf]; omega
      · exact ⟨k + 1, false, by omega, rfl, by go_num, HQ.out.drewN _, by show _ ↔ _; rw [HNX.out, ← HW.out]; simp⟩
      · exact ⟨k + 1, u, by omega, rfl, by go_num, HQ.out.drewN _, by show _ ↔ _; rw [HNX.out, ← HW.out, HU.out]; simp⟩
    · have HE : Hid (r = true ↔ ∀ z ∈ P, z.2 = L) := by
        have h1 := HW.out
        rw [List.take_of_length_le (by rw [HQL.out]; omega)] at h1
        exact h1
      have HSM := Lib.hid (sums_ok wr (HG.out.q HQ.out))
      have HS1 : Hid (∀ w1, Q wr w1 → Calls Tryd.prog 19 #[.slice A0 m c0, .slice A q c] w1 fun e w' => e = .returned (.bool r) ∧ Hid (Q wr w')) := fun w1 h1 => by
        have hq1 := HQ.out.trans' h1
        refine (same_ok A0 m c0 L A q c P (· < w.heap.size) w1 (HS0.out.below hq1) HL.out HB0.out HQL.out (HPS.out.below hq1) (HPP.out.belowP (fun _ h => h) hq1) (by omega) (by omega)).mono ?_
        rintro e w' ⟨r', rfl, h⟩
        have : r' = r := by rw [Bool.eq_iff_iff, h.out.1, HE.out]
        subst this
        exact ⟨rfl, h1.trans' h.out.2⟩
      have HS2 : Hid (∀ w1, Q wr w1 → Calls Tryd.prog 19 #[.slice A0 m c0, .slice none 0 0] w1 fun e w' => e = .returned (.bool true) ∧ Hid (Q wr w')) := fun w1 h1 => by
        have hq1 := HQ.out.trans' h1
        refine (same_ok A0 m c0 L none 0 0 [] (· < w.heap.size) w1 (HS0.out.below hq1) HL.out HB0.out rfl (SeesP.nil _ _ _) (fun z hz => by cases hz) (by omega) (by omega)).mono ?_
        rintro e w' ⟨r', rfl, h⟩
        have : r' = true := by rw [h.out.1]; simp
        subst this
        exact ⟨rfl, h1.trans' h.out.2⟩
      have HS3 : Hid (∀ w1, Q wr w1 → Calls Tryd.prog 19 #[.slice A0 m c0, .slice (some ⟨w1.heap.size, 0, none⟩) 2 2] (w1.alloc (.cells #[.slice A0 m c0, .slice A0 m c0] 22)) fun e w' => e = .returned (.bool true) ∧ Hid (Q wr w')) := fun w1 h1 => by
        have hq1 := HQ.out.trans' (h1.alloc (.cells #[.slice A0 m c0, .slice A0 m c0] 22))
        have hlt : w.heap.size ≤ w1.heap.size := (HQ.out.trans' h1).size
        refine (same_ok A0 m c0 L (some ⟨w1.heap.size, 0, none⟩) 2 2 [(.slice A0 m c0, L), (.slice A0 m c0, L)] (· < w1.heap.size + 1) _ ((HS0.out.below hq1).more (fun b hb => by omega)) HL.out HB0.out rfl (SeesP.new w1 [.slice A0 m c0, .slice A0 m c0] _) (fun z hz => ?_) (by omega) (by omega)).mono ?_
        · simp only [List.mem_cons, List.not_mem_nil, or_false, or_self] at hz
          subst hz
          exact ⟨_, _, _, rfl, HL.out, (HS0.out.below hq1).more (fun b hb => by omega), HB0.out⟩
        · rintro e w' ⟨r', rfl, h⟩
          have : r' = true := by rw [h.out.1]; simp
          subst this
          exact ⟨rfl, (h1.alloc _).trans' h.out.2⟩
      clear HW H0
      go_wp2_with (first
        | (go_at_call 16; go_loud ((with_reducible refine HSM.out.mono ?_); rintro e w1 ⟨rfl, H1⟩))
        | (go_at_call 19; (with_reducible refine (HS1.out _ H1.out).mono ?_); rintro e w2 ⟨rfl, H2⟩)
        | (go_at_call 19; (with_reducible refine (HS2.out _ H2.out).mono ?_); rintro e w3 ⟨rfl, H3⟩)
        | (go_at_call 19; (with_reducible refine (HS3.out _ H3.out).mono ?_); rintro e w4 ⟨rfl, H4⟩))
      go_ret
      exact ⟨rfl, HQ.out.trans' H4.out⟩
theorem sumSame_true (A0 : Option Addr) (n0 c0 : Nat) (zs : List Int) (A : Option Addr) (n c : Nat) (parts : List (Value × List Nat)) (w : World) (w0 : IsRow .u8 w A0 n0 c0 zs) (w1 : RowB w A n c parts) (hG : Glob w) :
    Calls Tryd.prog 4 #[.slice A0 n0 c0, .slice A n c] w fun e w' => e = .returned (.bool true) ∧ Below w.heap.size w w' := by
  obtain ⟨h1, h2, h3, h4, h5, h6⟩ := row8 w0 (min n0 3000) (by omega)
  exact sumSame_walk A0 n0 c0 _ A n c parts w hG h4 h5 h1 h2 h3 w1
end Go.Proofs.YtcdbffgmgfblkaaDoor
