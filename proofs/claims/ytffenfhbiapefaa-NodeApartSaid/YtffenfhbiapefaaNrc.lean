/- The walk through the document's Check. -/
import Derived.Test.YtffenfhbiapefaaNck
namespace Go.Proofs.Ytffenfhbiapefaa
set_option linter.unusedVariables false
set_option linter.unusedSimpArgs false
open Go.RowKit

set_option maxHeartbeats 16000000 in
set_option maxRecDepth 100000 in
theorem refCheck_core (n : Nd) (A : Option Addr) (pn pc : Nat) (w : World) (kd sz : Int) (tg : ByteArray) (zb nb mt : Bool) (md tm : Int) (nm : ByteArray) (HT : Hid (n.tree.length = 32)) (HZ : Hid (zb = decide (n.tree = noId))) (HKD : Hid (kd = n.kind)) (HSZ : Hid (sz = n.size)) (HTG : Hid (tg = n.target)) (HMD : Hid (md = n.mode)) (HTM : Hid (tm = n.time)) (HNM : Hid (nm = n.name))
    (HNA : Hid (∀ w, Calls Try.prog 15 #[.string nm] w fun e w' => e = .returned (.bool nb) ∧ Q w w')) (hpm : pn ≤ 9223372036854775807) (hts : tg.size ≤ 9223372036854775807) (hmt : mt = (withinB md 0 4095 && withinB tm 0 1099511627776)) :
    Calls Try.prog 13 #[.agg (ndC n A pn pc)] w fun e w' => e = .returned (.int .i64 ((if nb then (if mt && fitsP kd sz tg pn zb then 0 else 2) else 5 : Nat) : Int)) ∧ Q w w' := by
  cases nb with
  | false =>
    clear hmt
    go_enter Try.func13, Try.ntmps13
    go_wp2_with (first
      | ((with_reducible refine gate 1 rfl ?_); go_loud (refine wpList_box_row rfl 26 (.tmp 0) rfl _ rfl 39 _ (nd_agg n A pn pc) ?_; intro w1 hr1 hx1; have H1 := Lib.hid (And.intro (NodeAt.of_row hr1) (hx1.q (Q.refl _))); have H1lt := hr1.lt; obtain ⟨c0, _, _, _, _, _, _⟩ := nd_cells H1.out.1; rw [← HNM.out] at c0; clear hr1 hx1))
      | (go_at_call 15; go_loud ((with_reducible refine (HNA.out _).mono ?_); rintro e w2 ⟨rfl, hq2⟩; have H2 := Lib.hid (H1.out.2.step hq2); have HN2 : Hid (NodeAt w2 w.heap.size 0 n A pn pc) := Lib.hid (fun i hi => (hq2.cell (p := ⟨w.heap.size, 0 + i, none⟩) H1lt).trans (H1.out.1 i hi)); clear c0; obtain ⟨_, c1, c2, c3, c4, c5, c6⟩ := nd_cells HN2.out; rw [← HKD.out] at c1; rw [← HMD.out] at c2; rw [← HTM.out] at c3; rw [← HSZ.out] at c4; rw [← HTG.out] at c5; clear hq2))
      | ((with_reducible refine gate 34 rfl ?_); simp only [hte])
      | ((with_reducible refine gate 35 rfl ?_); (refine wpList_run_gd (by rfl) (load_id 7 (.tmp 34) rfl rfl HN2.out.tree) ?_))
      | ((with_reducible refine gate 36 rfl ?_); (refine wpList_run_gd (by rfl) (run_no_id _ _ _ rfl) ?_))
      | ((with_reducible refine gate 37 rfl ?_); (refine wpList_run_gd (by rfl) (run_eql_id _ n.tree noId HT.out noId_len _ _ _ _ rfl rfl rfl _) ?_; rw [← HZ.out]))
      | ((with_reducible refine gate 108 rfl ?_); (refine wpList_run_gd (by rfl) (load_id 7 (.tmp 107) rfl rfl HN2.out.tree) ?_))
      | ((with_reducible refine gate 109 rfl ?_); (refine wpList_run_gd (by rfl) (run_no_id _ _ _ rfl) ?_))
      | ((with_reducible refine gate 110 rfl ?_); (refine wpList_run_gd (by rfl) (run_eql_id _ n.tree noId HT.out noId_len _ _ _ _ rfl rfl rfl _) ?_; rw [← HZ.out])))
    go_ret
    exact ⟨rfl, H2.out⟩
  | true =>
  by_cases h1 : md < 0
  · obtain rfl : mt = false := by rw [hmt]; unfold withinB; rw [decide_eq_false (fun h => by omega)]; rfl
    clear hmt
    have b1 : decide (md < 0) = true := decide_eq_true (by omega)
    go_enter Try.func13, Try.ntmps13
    go_wp2_with (first
      | ((with_reducible refine gate 1 rfl ?_); go_loud (refine wpList_box_row rfl 26 (.tmp 0) rfl _ rfl 39 _ (nd_agg n A pn pc) ?_; intro w1 hr1 hx1; have H1 := Lib.hid (And.intro (NodeAt.of_row hr1) (hx1.q (Q.refl _))); have H1lt := hr1.lt; obtain ⟨c0, _, _, _, _, _, _⟩ := nd_cells H1.out.1; rw [← HNM.out] at c0; clear hr1 hx1))
      | (go_at_call 15; go_loud ((with_reducible refine (HNA.out _).mono ?_); rintro e w2 ⟨rfl, hq2⟩; have H2 := Lib.hid (H1.out.2.step hq2); have HN2 : Hid (NodeAt w2 w.heap.size 0 n A pn pc) := Lib.hid (fun i hi => (hq2.cell (p := ⟨w.heap.size, 0 + i, none⟩) H1lt).trans (H1.out.1 i hi)); clear c0; obtain ⟨_, c1, c2, c3, c4, c5, c6⟩ := nd_cells HN2.out; rw [← HKD.out] at c1; rw [← HMD.out] at c2; rw [← HTM.out] at c3; rw [← HSZ.out] at c4; rw [← HTG.out] at c5; clear hq2))
      | ((with_reducible refine gate 34 rfl ?_); simp only [hte])
      | ((with_reducible refine gate 35 rfl ?_); (refine wpList_run_gd (by rfl) (load_id 7 (.tmp 34) rfl rfl HN2.out.tree) ?_))
      | ((with_reducible refine gate 36 rfl ?_); (refine wpList_run_gd (by rfl) (run_no_id _ _ _ rfl) ?_))
      | ((with_reducible refine gate 37 rfl ?_); (refine wpList_run_gd (by rfl) (run_eql_id _ n.tree noId HT.out noId_len _ _ _ _ rfl rfl rfl _) ?_; rw [← HZ.out]))
      | ((with_reducible refine gate 108 rfl ?_); (refine wpList_run_gd (by rfl) (load_id 7 (.tmp 107) rfl rfl HN2.out.tree) ?_))
      | ((with_reducible refine gate 109 rfl ?_); (refine wpList_run_gd (by rfl) (run_no_id _ _ _ rfl) ?_))
      | ((with_reducible refine gate 110 rfl ?_); (refine wpList_run_gd (by rfl) (run_eql_id _ n.tree noId HT.out noId_len _ _ _ _ rfl rfl rfl _) ?_; rw [← HZ.out])))
    go_ret
    exact ⟨rfl, H2.out⟩
  by_cases h2 : 4095 < md
  · obtain rfl : mt = false := by rw [hmt]; unfold withinB; rw [decide_eq_false (fun h => by omega)]; rfl
    clear hmt
    have b1 : decide (md < 0) = false := decide_eq_false (by omega)
    have b2 : decide (4095 < md) = true := decide_eq_true (by omega)
    go_enter Try.func13, Try.ntmps13
    go_wp2_with (first
      | ((with_reducible refine gate 1 rfl ?_); go_loud (refine wpList_box_row rfl 26 (.tmp 0) rfl _ rfl 39 _ (nd_agg n A pn pc) ?_; intro w1 hr1 hx1; have H1 := Lib.hid (And.intro (NodeAt.of_row hr1) (hx1.q (Q.refl _))); have H1lt := hr1.lt; obtain ⟨c0, _, _, _, _, _, _⟩ := nd_cells H1.out.1; rw [← HNM.out] at c0; clear hr1 hx1))
      | (go_at_call 15; go_loud ((with_reducible refine (HNA.out _).mono ?_); rintro e w2 ⟨rfl, hq2⟩; have H2 := Lib.hid (H1.out.2.step hq2); have HN2 : Hid (NodeAt w2 w.heap.size 0 n A pn pc) := Lib.hid (fun i hi => (hq2.cell (p := ⟨w.heap.size, 0 + i, none⟩) H1lt).trans (H1.out.1 i hi)); clear c0; obtain ⟨_, c1, c2, c3, c4, c5, c6⟩ := nd_cells HN2.out; rw [← HKD.out] at c1; rw [← HMD.out] at c2; rw [← HTM.out] at c3; rw [← HSZ.out] at c4; rw [← HTG.out] at c5; clear hq2))
      | ((with_reducible refine gate 34 rfl ?_); simp only [hte])
      | ((with_reducible refine gate 35 rfl ?_); (refine wpList_run_gd (by rfl) (load_id 7 (.tmp 34) rfl rfl HN2.out.tree) ?_))
      | ((with_reducible refine gate 36 rfl ?_); (refine wpList_run_gd (by rfl) (run_no_id _ _ _ rfl) ?_))
      | ((with_reducible refine gate 37 rfl ?_); (refine wpList_run_gd (by rfl) (run_eql_id _ n.tree noId HT.out noId_len _ _ _ _ rfl rfl rfl _) ?_; rw [← HZ.out]))
      | ((with_reducible refine gate 108 rfl ?_); (refine wpList_run_gd (by rfl) (load_id 7 (.tmp 107) rfl rfl HN2.out.tree) ?_))
      | ((with_reducible refine gate 109 rfl ?_); (refine wpList_run_gd (by rfl) (run_no_id _ _ _ rfl) ?_))
      | ((with_reducible refine gate 110 rfl ?_); (refine wpList_run_gd (by rfl) (run_eql_id _ n.tree noId HT.out noId_len _ _ _ _ rfl rfl rfl _) ?_; rw [← HZ.out])))
    go_ret
    exact ⟨rfl, H2.out⟩
  by_cases h3 : tm < 0
  · obtain rfl : mt = false := by rw [hmt]; unfold withinB; rw [decide_eq_false (p := 0 ≤ tm ∧ _) (fun h => by omega), Bool.and_false]
    clear hmt
    have b1 : decide (md < 0) = false := decide_eq_false (by omega)
    have b2 : decide (4095 < md) = false := decide_eq_false (by omega)
    have b3 : decide (tm < 0) = true := decide_eq_true (by omega)
    go_enter Try.func13, Try.ntmps13
    go_wp2_with (first
      | ((with_reducible refine gate 1 rfl ?_); go_loud (refine wpList_box_row rfl 26 (.tmp 0) rfl _ rfl 39 _ (nd_agg n A pn pc) ?_; intro w1 hr1 hx1; have H1 := Lib.hid (And.intro (NodeAt.of_row hr1) (hx1.q (Q.refl _))); have H1lt := hr1.lt; obtain ⟨c0, _, _, _, _, _, _⟩ := nd_cells H1.out.1; rw [← HNM.out] at c0; clear hr1 hx1))
      | (go_at_call 15; go_loud ((with_reducible refine (HNA.out _).mono ?_); rintro e w2 ⟨rfl, hq2⟩; have H2 := Lib.hid (H1.out.2.step hq2); have HN2 : Hid (NodeAt w2 w.heap.size 0 n A pn pc) := Lib.hid (fun i hi => (hq2.cell (p := ⟨w.heap.size, 0 + i, none⟩) H1lt).trans (H1.out.1 i hi)); clear c0; obtain ⟨_, c1, c2, c3, c4, c5, c6⟩ := nd_cells HN2.out; rw [← HKD.out] at c1; rw [← HMD.out] at c2; rw [← HTM.out] at c3; rw [← HSZ.out] at c4; rw [← HTG.out] at c5; clear hq2))
      | ((with_reducible refine gate 34 rfl ?_); simp only [hte])
      | ((with_reducible refine gate 35 rfl ?_); (refine wpList_run_gd (by rfl) (load_id 7 (.tmp 34) rfl rfl HN2.out.tree) ?_))
      | ((with_reducible refine gate 36 rfl ?_); (refine wpList_run_gd (by rfl) (run_no_id _ _ _ rfl) ?_))
      | ((with_reducible refine gate 37 rfl ?_); (refine wpList_run_gd (by rfl) (run_eql_id _ n.tree noId HT.out noId_len _ _ _ _ rfl rfl rfl _) ?_; rw [← HZ.out]))
      | ((with_reducible refine gate 108 rfl ?_); (refine wpList_run_gd (by rfl) (load_id 7 (.tmp 107) rfl rfl HN2.out.tree) ?_))
      | ((with_reducible refine gate 109 rfl ?_); (refine wpList_run_gd (by rfl) (run_no_id _ _ _ rfl) ?_))
      | ((with_reducible refine gate 110 rfl ?_); (refine wpList_run_gd (by rfl) (run_eql_id _ n.tree noId HT.out noId_len _ _ _ _ rfl rfl rfl _) ?_; rw [← HZ.out])))
    go_ret
    exact ⟨rfl, H2.out⟩
  by_cases h4 : 1099511627776 < tm
  · obtain rfl : mt = false := by rw [hmt]; unfold withinB; rw [decide_eq_false (p := 0 ≤ tm ∧ _) (fun h => by omega), Bool.and_false]
    clear hmt
    have b4 : decide (1099511627776 < tm) = true := decide_eq_true h4
    clear h4
    have b1 : decide (md < 0) = false := decide_eq_false (by omega)
    have b2 : decide (4095 < md) = false := decide_eq_false (by omega)
    have b3 : decide (tm < 0) = false := decide_eq_false (by omega)
    go_enter Try.func13, Try.ntmps13
    go_wp2_with (first
      | ((with_reducible refine gate 1 rfl ?_); go_loud (refine wpList_box_row rfl 26 (.tmp 0) rfl _ rfl 39 _ (nd_agg n A pn pc) ?_; intro w1 hr1 hx1; have H1 := Lib.hid (And.intro (NodeAt.of_row hr1) (hx1.q (Q.refl _))); have H1lt := hr1.lt; obtain ⟨c0, _, _, _, _, _, _⟩ := nd_cells H1.out.1; rw [← HNM.out] at c0; clear hr1 hx1))
      | (go_at_call 15; go_loud ((with_reducible refine (HNA.out _).mono ?_); rintro e w2 ⟨rfl, hq2⟩; have H2 := Lib.hid (H1.out.2.step hq2); have HN2 : Hid (NodeAt w2 w.heap.size 0 n A pn pc) := Lib.hid (fun i hi => (hq2.cell (p := ⟨w.heap.size, 0 + i, none⟩) H1lt).trans (H1.out.1 i hi)); clear c0; obtain ⟨_, c1, c2, c3, c4, c5, c6⟩ := nd_cells HN2.out; rw [← HKD.out] at c1; rw [← HMD.out] at c2; rw [← HTM.out] at c3; rw [← HSZ.out] at c4; rw [← HTG.out] at c5; clear hq2))
      | ((with_reducible refine gate 34 rfl ?_); simp only [hte])
      | ((with_reducible refine gate 35 rfl ?_); (refine wpList_run_gd (by rfl) (load_id 7 (.tmp 34) rfl rfl HN2.out.tree) ?_))
      | ((with_reducible refine gate 36 rfl ?_); (refine wpList_run_gd (by rfl) (run_no_id _ _ _ rfl) ?_))
      | ((with_reducible refine gate 37 rfl ?_); (refine wpList_run_gd (by rfl) (run_eql_id _ n.tree noId HT.out noId_len _ _ _ _ rfl rfl rfl _) ?_; rw [← HZ.out]))
      | ((with_reducible refine gate 108 rfl ?_); (refine wpList_run_gd (by rfl) (load_id 7 (.tmp 107) rfl rfl HN2.out.tree) ?_))
      | ((with_reducible refine gate 109 rfl ?_); (refine wpList_run_gd (by rfl) (run_no_id _ _ _ rfl) ?_))
      | ((with_reducible refine gate 110 rfl ?_); (refine wpList_run_gd (by rfl) (run_eql_id _ n.tree noId HT.out noId_len _ _ _ _ rfl rfl rfl _) ?_; rw [← HZ.out])))
    go_ret
    exact ⟨rfl, H2.out⟩
  obtain rfl : mt = true := by rw [hmt]; unfold withinB; rw [decide_eq_true (by omega), decide_eq_true (by omega)]; rfl
  have b1 : decide (md < 0) = false := decide_eq_false h1
  have b2 : decide (4095 < md) = false := decide_eq_false h2
  have b3 : decide (tm < 0) = false := decide_eq_false h3
  have b4 : decide (1099511627776 < tm) = false := decide_eq_false h4
  clear h1 h2 h3 h4 hmt
  rw [if_pos rfl, Bool.true_and]
  rcases Decidable.em (tg.toList = []) with ht0 | ht0
  · have hte : tg.toList.isEmpty = true := List.isEmpty_iff.2 ht0
    by_cases k0 : kd = 0
    · subst k0
      go_enter Try.func13, Try.ntmps13
      go_wp2_with (first
        | ((with_reducible refine gate 1 rfl ?_); go_loud (refine wpList_box_row rfl 26 (.tmp 0) rfl _ rfl 39 _ (nd_agg n A pn pc) ?_; intro w1 hr1 hx1; have H1 := Lib.hid (And.intro (NodeAt.of_row hr1) (hx1.q (Q.refl _))); have H1lt := hr1.lt; obtain ⟨c0, _, _, _, _, _, _⟩ := nd_cells H1.out.1; rw [← HNM.out] at c0; clear hr1 hx1))
        | (go_at_call 15; go_loud ((with_reducible refine (HNA.out _).mono ?_); rintro e w2 ⟨rfl, hq2⟩; have H2 := Lib.hid (H1.out.2.step hq2); have HN2 : Hid (NodeAt w2 w.heap.size 0 n A pn pc) := Lib.hid (fun i hi => (hq2.cell (p := ⟨w.heap.size, 0 + i, none⟩) H1lt).trans (H1.out.1 i hi)); clear c0; obtain ⟨_, c1, c2, c3, c4, c5, c6⟩ := nd_cells HN2.out; rw [← HKD.out] at c1; rw [← HMD.out] at c2; rw [← HTM.out] at c3; rw [← HSZ.out] at c4; rw [← HTG.out] at c5; clear hq2))
        | ((with_reducible refine gate 34 rfl ?_); simp only [hte])
        | ((with_reducible refine gate 35 rfl ?_); (refine wpList_run_gd (by rfl) (load_id 7 (.tmp 34) rfl rfl HN2.out.tree) ?_))
        | ((with_reducible refine gate 36 rfl ?_); (refine wpList_run_gd (by rfl) (run_no_id _ _ _ rfl) ?_))
        | ((with_reducible refine gate 37 rfl ?_); (refine wpList_run_gd (by rfl) (run_eql_id _ n.tree noId HT.out noId_len _ _ _ _ rfl rfl rfl _) ?_; rw [← HZ.out]))
        | ((with_reducible refine gate 108 rfl ?_); (refine wpList_run_gd (by rfl) (load_id 7 (.tmp 107) rfl rfl HN2.out.tree) ?_))
        | ((with_reducible refine gate 109 rfl ?_); (refine wpList_run_gd (by rfl) (run_no_id _ _ _ rfl) ?_))
        | ((with_reducible refine gate 110 rfl ?_); (refine wpList_run_gd (by rfl) (run_eql_id _ n.tree noId HT.out noId_len _ _ _ _ rfl rfl rfl _) ?_; rw [← HZ.out])))
      all_goals
        go_ret
        refine ⟨ret_err ?_, H2.out⟩
        clear HT HZ HKD HSZ HTG HNA H1 H2 HN2 HMD HTM HNM b1 b2 b3 b4
        have e1 : ((pn : Int) == 0) = decide (pn = 0) := by rw [Bool.eq_iff_iff]; simp
        have e2 : (sz == 0) = decide (sz = 0) := rfl
        first
          | (simp_all [fitsP]; done)
          | (by_cases hp0 : pn = 0 <;> by_cases hs0 : sz = 0 <;> simp_all [fitsP]; done)
          | (by_cases hp0 : pn = 0 <;> by_cases hs0 : sz = 0 <;> simp_all [fitsP] <;> omega)
          | (simp_all [fitsP]; omega)
    by_cases k1 : kd = 1
    · subst k1
      go_enter Try.func13, Try.ntmps13
      go_wp2_with (first
        | ((with_reducible refine gate 1 rfl ?_); go_loud (refine wpList_box_row rfl 26 (.tmp 0) rfl _ rfl 39 _ (nd_agg n A pn pc) ?_; intro w1 hr1 hx1; have H1 := Lib.hid (And.intro (NodeAt.of_row hr1) (hx1.q (Q.refl _))); have H1lt := hr1.lt; obtain ⟨c0, _, _, _, _, _, _⟩ := nd_cells H1.out.1; rw [← HNM.out] at c0; clear hr1 hx1))
        | (go_at_call 15; go_loud ((with_reducible refine (HNA.out _).mono ?_); rintro e w2 ⟨rfl, hq2⟩; have H2 := Lib.hid (H1.out.2.step hq2); have HN2 : Hid (NodeAt w2 w.heap.size 0 n A pn pc) := Lib.hid (fun i hi => (hq2.cell (p := ⟨w.heap.size, 0 + i, none⟩) H1lt).trans (H1.out.1 i hi)); clear c0; obtain ⟨_, c1, c2, c3, c4, c5, c6⟩ := nd_cells HN2.out; rw [← HKD.out] at c1; rw [← HMD.out] at c2; rw [← HTM.out] at c3; rw [← HSZ.out] at c4; rw [← HTG.out] at c5; clear hq2))
        | ((with_reducible refine gate 34 rfl ?_); simp only [hte])
        | ((with_reducible refine gate 35 rfl ?_); (refine wpList_run_gd (by rfl) (load_id 7 (.tmp 34) rfl rfl HN2.out.tree) ?_))
        | ((with_reducible refine gate 36 rfl ?_); (refine wpList_run_gd (by rfl) (run_no_id _ _ _ rfl) ?_))
        | ((with_reducible refine gate 37 rfl ?_); (refine wpList_run_gd (by rfl) (run_eql_id _ n.tree noId HT.out noId_len _ _ _ _ rfl rfl rfl _) ?_; rw [← HZ.out]))
        | ((with_reducible refine gate 108 rfl ?_); (refine wpList_run_gd (by rfl) (load_id 7 (.tmp 107) rfl rfl HN2.out.tree) ?_))
        | ((with_reducible refine gate 109 rfl ?_); (refine wpList_run_gd (by rfl) (run_no_id _ _ _ rfl) ?_))
        | ((with_reducible refine gate 110 rfl ?_); (refine wpList_run_gd (by rfl) (run_eql_id _ n.tree noId HT.out noId_len _ _ _ _ rfl rfl rfl _) ?_; rw [← HZ.out])))
      all_goals
        go_ret
        refine ⟨ret_err ?_, H2.out⟩
        clear HT HZ HKD HSZ HTG HNA H1 H2 HN2 HMD HTM HNM b1 b2 b3 b4
        have e1 : ((pn : Int) == 0) = decide (pn = 0) := by rw [Bool.eq_iff_iff]; simp
        have e2 : (sz == 0) = decide (sz = 0) := rfl
        first
          | (simp_all [fitsP]; done)
          | (by_cases hp0 : pn = 0 <;> by_cases hs0 : sz = 0 <;> simp_all [fitsP]; done)
          | (by_cases hp0 : pn = 0 <;> by_cases hs0 : sz = 0 <;> simp_all [fitsP] <;> omega)
          | (simp_all [fitsP]; omega)
    by_cases k2 : kd = 2
    · subst k2
      go_enter Try.func13, Try.ntmps13
      go_wp2_with (first
        | ((with_reducible refine gate 1 rfl ?_); go_loud (refine wpList_box_row rfl 26 (.tmp 0) rfl _ rfl 39 _ (nd_agg n A pn pc) ?_; intro w1 hr1 hx1; have H1 := Lib.hid (And.intro (NodeAt.of_row hr1) (hx1.q (Q.refl _))); have H1lt := hr1.lt; obtain ⟨c0, _, _, _, _, _, _⟩ := nd_cells H1.out.1; rw [← HNM.out] at c0; clear hr1 hx1))
        | (go_at_call 15; go_loud ((with_reducible refine (HNA.out _).mono ?_); rintro e w2 ⟨rfl, hq2⟩; have H2 := Lib.hid (H1.out.2.step hq2); have HN2 : Hid (NodeAt w2 w.heap.size 0 n A pn pc) := Lib.hid (fun i hi => (hq2.cell (p := ⟨w.heap.size, 0 + i, none⟩) H1lt).trans (H1.out.1 i hi)); clear c0; obtain ⟨_, c1, c2, c3, c4, c5, c6⟩ := nd_cells HN2.out; rw [← HKD.out] at c1; rw [← HMD.out] at c2; rw [← HTM.out] at c3; rw [← HSZ.out] at c4; rw [← HTG.out] at c5; clear hq2))
        | ((with_reducible refine gate 34 rfl ?_); simp only [hte])
        | ((with_reducible refine gate 35 rfl ?_); (refine wpList_run_gd (by rfl) (load_id 7 (.tmp 34) rfl rfl HN2.out.tree) ?_))
        | ((with_reducible refine gate 36 rfl ?_); (refine wpList_run_gd (by rfl) (run_no_id _ _ _ rfl) ?_))
        | ((with_reducible refine gate 37 rfl ?_); (refine wpList_run_gd (by rfl) (run_eql_id _ n.tree noId HT.out noId_len _ _ _ _ rfl rfl rfl _) ?_; rw [← HZ.out]))
        | ((with_reducible refine gate 108 rfl ?_); (refine wpList_run_gd (by rfl) (load_id 7 (.tmp 107) rfl rfl HN2.out.tree) ?_))
        | ((with_reducible refine gate 109 rfl ?_); (refine wpList_run_gd (by rfl) (run_no_id _ _ _ rfl) ?_))
        | ((with_reducible refine gate 110 rfl ?_); (refine wpList_run_gd (by rfl) (run_eql_id _ n.tree noId HT.out noId_len _ _ _ _ rfl rfl rfl _) ?_; rw [← HZ.out])))
      all_goals
        go_ret
        refine ⟨ret_err ?_, H2.out⟩
        clear HT HZ HKD HSZ HTG HNA H1 H2 HN2 HMD HTM HNM b1 b2 b3 b4
        have e1 : ((pn : Int) == 0) = decide (pn = 0) := by rw [Bool.eq_iff_iff]; simp
        have e2 : (sz == 0) = decide (sz = 0) := rfl
        first
          | (simp_all [fitsP]; done)
          | (by_cases hp0 : pn = 0 <;> by_cases hs0 : sz = 0 <;> simp_all [fitsP]; done)
          | (by_cases hp0 : pn = 0 <;> by_cases hs0 : sz = 0 <;> simp_all [fitsP] <;> omega)
          | (simp_all [fitsP]; omega)
    have q0 : (kd == 0) = false := beq_eq_false_iff_ne.2 k0
    have q1 : (kd == 1) = false := beq_eq_false_iff_ne.2 k1
    have q2 : (kd == 2) = false := beq_eq_false_iff_ne.2 k2
    go_enter Try.func13, Try.ntmps13
    go_wp2_with (first
      | ((with_reducible refine gate 1 rfl ?_); go_loud (refine wpList_box_row rfl 26 (.tmp 0) rfl _ rfl 39 _ (nd_agg n A pn pc) ?_; intro w1 hr1 hx1; have H1 := Lib.hid (And.intro (NodeAt.of_row hr1) (hx1.q (Q.refl _))); have H1lt := hr1.lt; obtain ⟨c0, _, _, _, _, _, _⟩ := nd_cells H1.out.1; rw [← HNM.out] at c0; clear hr1 hx1))
      | (go_at_call 15; go_loud ((with_reducible refine (HNA.out _).mono ?_); rintro e w2 ⟨rfl, hq2⟩; have H2 := Lib.hid (H1.out.2.step hq2); have HN2 : Hid (NodeAt w2 w.heap.size 0 n A pn pc) := Lib.hid (fun i hi => (hq2.cell (p := ⟨w.heap.size, 0 + i, none⟩) H1lt).trans (H1.out.1 i hi)); clear c0; obtain ⟨_, c1, c2, c3, c4, c5, c6⟩ := nd_cells HN2.out; rw [← HKD.out] at c1; rw [← HMD.out] at c2; rw [← HTM.out] at c3; rw [← HSZ.out] at c4; rw [← HTG.out] at c5; clear hq2))
      | ((with_reducible refine gate 34 rfl ?_); simp only [hte])
      | ((with_reducible refine gate 35 rfl ?_); (refine wpList_run_gd (by rfl) (load_id 7 (.tmp 34) rfl rfl HN2.out.tree) ?_))
      | ((with_reducible refine gate 36 rfl ?_); (refine wpList_run_gd (by rfl) (run_no_id _ _ _ rfl) ?_))
      | ((with_reducible refine gate 37 rfl ?_); (refine wpList_run_gd (by rfl) (run_eql_id _ n.tree noId HT.out noId_len _ _ _ _ rfl rfl rfl _) ?_; rw [← HZ.out]))
      | ((with_reducible refine gate 108 rfl ?_); (refine wpList_run_gd (by rfl) (load_id 7 (.tmp 107) rfl rfl HN2.out.tree) ?_))
      | ((with_reducible refine gate 109 rfl ?_); (refine wpList_run_gd (by rfl) (run_no_id _ _ _ rfl) ?_))
      | ((with_reducible refine gate 110 rfl ?_); (refine wpList_run_gd (by rfl) (run_eql_id _ n.tree noId HT.out noId_len _ _ _ _ rfl rfl rfl _) ?_; rw [← HZ.out])))
    all_goals
      go_ret
      refine ⟨ret_err ?_, H2.out⟩
      clear HT HZ HKD HSZ HTG HNA H1 H2 HN2 HMD HTM HNM b1 b2 b3 b4
      have e1 : ((pn : Int) == 0) = decide (pn = 0) := by rw [Bool.eq_iff_iff]; simp
      have e2 : (sz == 0) = decide (sz = 0) := rfl
      first
        | (simp_all [fitsP]; done)
        | (by_cases hp0 : pn = 0 <;> by_cases hs0 : sz = 0 <;> simp_all [fitsP]; done)
        | (by_cases hp0 : pn = 0 <;> by_cases hs0 : sz = 0 <;> simp_all [fitsP] <;> omega)
        | (simp_all [fitsP]; omega)
  · have hte : tg.toList.isEmpty = false := by cases h : tg.toList.isEmpty; rfl; exact absurd (List.isEmpty_iff.1 h) ht0
    by_cases k0 : kd = 0
    · subst k0
      go_enter Try.func13, Try.ntmps13
      go_wp2_with (first
        | ((with_reducible refine gate 1 rfl ?_); go_loud (refine wpList_box_row rfl 26 (.tmp 0) rfl _ rfl 39 _ (nd_agg n A pn pc) ?_; intro w1 hr1 hx1; have H1 := Lib.hid (And.intro (NodeAt.of_row hr1) (hx1.q (Q.refl _))); have H1lt := hr1.lt; obtain ⟨c0, _, _, _, _, _, _⟩ := nd_cells H1.out.1; rw [← HNM.out] at c0; clear hr1 hx1))
        | (go_at_call 15; go_loud ((with_reducible refine (HNA.out _).mono ?_); rintro e w2 ⟨rfl, hq2⟩; have H2 := Lib.hid (H1.out.2.step hq2); have HN2 : Hid (NodeAt w2 w.heap.size 0 n A pn pc) := Lib.hid (fun i hi => (hq2.cell (p := ⟨w.heap.size, 0 + i, none⟩) H1lt).trans (H1.out.1 i hi)); clear c0; obtain ⟨_, c1, c2, c3, c4, c5, c6⟩ := nd_cells HN2.out; rw [← HKD.out] at c1; rw [← HMD.out] at c2; rw [← HTM.out] at c3; rw [← HSZ.out] at c4; rw [← HTG.out] at c5; clear hq2))
        | ((with_reducible refine gate 34 rfl ?_); simp only [hte])
        | ((with_reducible refine gate 35 rfl ?_); (refine wpList_run_gd (by rfl) (load_id 7 (.tmp 34) rfl rfl HN2.out.tree) ?_))
        | ((with_reducible refine gate 36 rfl ?_); (refine wpList_run_gd (by rfl) (run_no_id _ _ _ rfl) ?_))
        | ((with_reducible refine gate 37 rfl ?_); (refine wpList_run_gd (by rfl) (run_eql_id _ n.tree noId HT.out noId_len _ _ _ _ rfl rfl rfl _) ?_; rw [← HZ.out]))
        | ((with_reducible refine gate 108 rfl ?_); (refine wpList_run_gd (by rfl) (load_id 7 (.tmp 107) rfl rfl HN2.out.tree) ?_))
        | ((with_reducible refine gate 109 rfl ?_); (refine wpList_run_gd (by rfl) (run_no_id _ _ _ rfl) ?_))
        | ((with_reducible refine gate 110 rfl ?_); (refine wpList_run_gd (by rfl) (run_eql_id _ n.tree noId HT.out noId_len _ _ _ _ rfl rfl rfl _) ?_; rw [← HZ.out])))
      all_goals
        go_ret
        refine ⟨ret_err ?_, H2.out⟩
        clear HT HZ HKD HSZ HTG HNA H1 H2 HN2 HMD HTM HNM b1 b2 b3 b4
        have e1 : ((pn : Int) == 0) = decide (pn = 0) := by rw [Bool.eq_iff_iff]; simp
        have e2 : (sz == 0) = decide (sz = 0) := rfl
        first
          | (simp_all [fitsP]; done)
          | (by_cases hp0 : pn = 0 <;> by_cases hs0 : sz = 0 <;> simp_all [fitsP]; done)
          | (by_cases hp0 : pn = 0 <;> by_cases hs0 : sz = 0 <;> simp_all [fitsP] <;> omega)
          | (simp_all [fitsP]; omega)
    by_cases k1 : kd = 1
    · subst k1
      go_enter Try.func13, Try.ntmps13
      go_wp2_with (first
        | ((with_reducible refine gate 1 rfl ?_); go_loud (refine wpList_box_row rfl 26 (.tmp 0) rfl _ rfl 39 _ (nd_agg n A pn pc) ?_; intro w1 hr1 hx1; have H1 := Lib.hid (And.intro (NodeAt.of_row hr1) (hx1.q (Q.refl _))); have H1lt := hr1.lt; obtain ⟨c0, _, _, _, _, _, _⟩ := nd_cells H1.out.1; rw [← HNM.out] at c0; clear hr1 hx1))
        | (go_at_call 15; go_loud ((with_reducible refine (HNA.out _).mono ?_); rintro e w2 ⟨rfl, hq2⟩; have H2 := Lib.hid (H1.out.2.step hq2); have HN2 : Hid (NodeAt w2 w.heap.size 0 n A pn pc) := Lib.hid (fun i hi => (hq2.cell (p := ⟨w.heap.size, 0 + i, none⟩) H1lt).trans (H1.out.1 i hi)); clear c0; obtain ⟨_, c1, c2, c3, c4, c5, c6⟩ := nd_cells HN2.out; rw [← HKD.out] at c1; rw [← HMD.out] at c2; rw [← HTM.out] at c3; rw [← HSZ.out] at c4; rw [← HTG.out] at c5; clear hq2))
        | ((with_reducible refine gate 34 rfl ?_); simp only [hte])
        | ((with_reducible refine gate 35 rfl ?_); (refine wpList_run_gd (by rfl) (load_id 7 (.tmp 34) rfl rfl HN2.out.tree) ?_))
        | ((with_reducible refine gate 36 rfl ?_); (refine wpList_run_gd (by rfl) (run_no_id _ _ _ rfl) ?_))
        | ((with_reducible refine gate 37 rfl ?_); (refine wpList_run_gd (by rfl) (run_eql_id _ n.tree noId HT.out noId_len _ _ _ _ rfl rfl rfl _) ?_; rw [← HZ.out]))
        | ((with_reducible refine gate 108 rfl ?_); (refine wpList_run_gd (by rfl) (load_id 7 (.tmp 107) rfl rfl HN2.out.tree) ?_))
        | ((with_reducible refine gate 109 rfl ?_); (refine wpList_run_gd (by rfl) (run_no_id _ _ _ rfl) ?_))
        | ((with_reducible refine gate 110 rfl ?_); (refine wpList_run_gd (by rfl) (run_eql_id _ n.tree noId HT.out noId_len _ _ _ _ rfl rfl rfl _) ?_; rw [← HZ.out])))
      all_goals
        go_ret
        refine ⟨ret_err ?_, H2.out⟩
        clear HT HZ HKD HSZ HTG HNA H1 H2 HN2 HMD HTM HNM b1 b2 b3 b4
        have e1 : ((pn : Int) == 0) = decide (pn = 0) := by rw [Bool.eq_iff_iff]; simp
        have e2 : (sz == 0) = decide (sz = 0) := rfl
        first
          | (simp_all [fitsP]; done)
          | (by_cases hp0 : pn = 0 <;> by_cases hs0 : sz = 0 <;> simp_all [fitsP]; done)
          | (by_cases hp0 : pn = 0 <;> by_cases hs0 : sz = 0 <;> simp_all [fitsP] <;> omega)
          | (simp_all [fitsP]; omega)
    by_cases k2 : kd = 2
    · subst k2
      go_enter Try.func13, Try.ntmps13
      go_wp2_with (first
        | ((with_reducible refine gate 1 rfl ?_); go_loud (refine wpList_box_row rfl 26 (.tmp 0) rfl _ rfl 39 _ (nd_agg n A pn pc) ?_; intro w1 hr1 hx1; have H1 := Lib.hid (And.intro (NodeAt.of_row hr1) (hx1.q (Q.refl _))); have H1lt := hr1.lt; obtain ⟨c0, _, _, _, _, _, _⟩ := nd_cells H1.out.1; rw [← HNM.out] at c0; clear hr1 hx1))
        | (go_at_call 15; go_loud ((with_reducible refine (HNA.out _).mono ?_); rintro e w2 ⟨rfl, hq2⟩; have H2 := Lib.hid (H1.out.2.step hq2); have HN2 : Hid (NodeAt w2 w.heap.size 0 n A pn pc) := Lib.hid (fun i hi => (hq2.cell (p := ⟨w.heap.size, 0 + i, none⟩) H1lt).trans (H1.out.1 i hi)); clear c0; obtain ⟨_, c1, c2, c3, c4, c5, c6⟩ := nd_cells HN2.out; rw [← HKD.out] at c1; rw [← HMD.out] at c2; rw [← HTM.out] at c3; rw [← HSZ.out] at c4; rw [← HTG.out] at c5; clear hq2))
        | ((with_reducible refine gate 34 rfl ?_); simp only [hte])
        | ((with_reducible refine gate 35 rfl ?_); (refine wpList_run_gd (by rfl) (load_id 7 (.tmp 34) rfl rfl HN2.out.tree) ?_))
        | ((with_reducible refine gate 36 rfl ?_); (refine wpList_run_gd (by rfl) (run_no_id _ _ _ rfl) ?_))
        | ((with_reducible refine gate 37 rfl ?_); (refine wpList_run_gd (by rfl) (run_eql_id _ n.tree noId HT.out noId_len _ _ _ _ rfl rfl rfl _) ?_; rw [← HZ.out]))
        | ((with_reducible refine gate 108 rfl ?_); (refine wpList_run_gd (by rfl) (load_id 7 (.tmp 107) rfl rfl HN2.out.tree) ?_))
        | ((with_reducible refine gate 109 rfl ?_); (refine wpList_run_gd (by rfl) (run_no_id _ _ _ rfl) ?_))
        | ((with_reducible refine gate 110 rfl ?_); (refine wpList_run_gd (by rfl) (run_eql_id _ n.tree noId HT.out noId_len _ _ _ _ rfl rfl rfl _) ?_; rw [← HZ.out])))
      all_goals
        go_ret
        refine ⟨ret_err ?_, H2.out⟩
        clear HT HZ HKD HSZ HTG HNA H1 H2 HN2 HMD HTM HNM b1 b2 b3 b4
        have e1 : ((pn : Int) == 0) = decide (pn = 0) := by rw [Bool.eq_iff_iff]; simp
        have e2 : (sz == 0) = decide (sz = 0) := rfl
        first
          | (simp_all [fitsP]; done)
          | (by_cases hp0 : pn = 0 <;> by_cases hs0 : sz = 0 <;> simp_all [fitsP]; done)
          | (by_cases hp0 : pn = 0 <;> by_cases hs0 : sz = 0 <;> simp_all [fitsP] <;> omega)
          | (simp_all [fitsP]; omega)
    have q0 : (kd == 0) = false := beq_eq_false_iff_ne.2 k0
    have q1 : (kd == 1) = false := beq_eq_false_iff_ne.2 k1
    have q2 : (kd == 2) = false := beq_eq_false_iff_ne.2 k2
    go_enter Try.func13, Try.ntmps13
    go_wp2_with (first
      | ((with_reducible refine gate 1 rfl ?_); go_loud (refine wpList_box_row rfl 26 (.tmp 0) rfl _ rfl 39 _ (nd_agg n A pn pc) ?_; intro w1 hr1 hx1; have H1 := Lib.hid (And.intro (NodeAt.of_row hr1) (hx1.q (Q.refl _))); have H1lt := hr1.lt; obtain ⟨c0, _, _, _, _, _, _⟩ := nd_cells H1.out.1; rw [← HNM.out] at c0; clear hr1 hx1))
      | (go_at_call 15; go_loud ((with_reducible refine (HNA.out _).mono ?_); rintro e w2 ⟨rfl, hq2⟩; have H2 := Lib.hid (H1.out.2.step hq2); have HN2 : Hid (NodeAt w2 w.heap.size 0 n A pn pc) := Lib.hid (fun i hi => (hq2.cell (p := ⟨w.heap.size, 0 + i, none⟩) H1lt).trans (H1.out.1 i hi)); clear c0; obtain ⟨_, c1, c2, c3, c4, c5, c6⟩ := nd_cells HN2.out; rw [← HKD.out] at c1; rw [← HMD.out] at c2; rw [← HTM.out] at c3; rw [← HSZ.out] at c4; rw [← HTG.out] at c5; clear hq2))
      | ((with_reducible refine gate 34 rfl ?_); simp only [hte])
      | ((with_reducible refine gate 35 rfl ?_); (refine wpList_run_gd (by rfl) (load_id 7 (.tmp 34) rfl rfl HN2.out.tree) ?_))
      | ((with_reducible refine gate 36 rfl ?_); (refine wpList_run_gd (by rfl) (run_no_id _ _ _ rfl) ?_))
      | ((with_reducible refine gate 37 rfl ?_); (refine wpList_run_gd (by rfl) (run_eql_id _ n.tree noId HT.out noId_len _ _ _ _ rfl rfl rfl _) ?_; rw [← HZ.out]))
      | ((with_reducible refine gate 108 rfl ?_); (refine wpList_run_gd (by rfl) (load_id 7 (.tmp 107) rfl rfl HN2.out.tree) ?_))
      | ((with_reducible refine gate 109 rfl ?_); (refine wpList_run_gd (by rfl) (run_no_id _ _ _ rfl) ?_))
      | ((with_reducible refine gate 110 rfl ?_); (refine wpList_run_gd (by rfl) (run_eql_id _ n.tree noId HT.out noId_len _ _ _ _ rfl rfl rfl _) ?_; rw [← HZ.out])))
    all_goals
      go_ret
      refine ⟨ret_err ?_, H2.out⟩
      clear HT HZ HKD HSZ HTG HNA H1 H2 HN2 HMD HTM HNM b1 b2 b3 b4
      have e1 : ((pn : Int) == 0) = decide (pn = 0) := by rw [Bool.eq_iff_iff]; simp
      have e2 : (sz == 0) = decide (sz = 0) := rfl
      first
        | (simp_all [fitsP]; done)
        | (by_cases hp0 : pn = 0 <;> by_cases hs0 : sz = 0 <;> simp_all [fitsP]; done)
        | (by_cases hp0 : pn = 0 <;> by_cases hs0 : sz = 0 <;> simp_all [fitsP] <;> omega)
        | (simp_all [fitsP]; omega)
theorem refCheck_ok (n : Nd) (A : Option Addr) (pn pc : Nat) (w : World) (hf : NdFit n pn) :
    Calls Try.prog 13 #[.agg (ndC n A pn pc)] w fun e w' => e = .returned (.int .i64 (checkN n : Int)) ∧ Q w w' := by
  have h := refCheck_core n A pn pc w n.kind n.size n.target (decide (n.tree = noId)) (nameB n.name) _ n.mode n.time n.name (Lib.hid hf.tree) (Lib.hid rfl) (Lib.hid rfl) (Lib.hid rfl) (Lib.hid rfl) (Lib.hid rfl) (Lib.hid rfl) (Lib.hid rfl) (Lib.hid fun w => refIsName_ok n.name w hf.name) hf.max hf.target rfl
  refine h.mono fun e w' ⟨he, hq⟩ => ⟨?_, hq⟩
  rw [he]
  refine ret_err ?_
  unfold checkN fitsB
  rw [hf.ids]
end Go.Proofs.Ytffenfhbiapefaa
