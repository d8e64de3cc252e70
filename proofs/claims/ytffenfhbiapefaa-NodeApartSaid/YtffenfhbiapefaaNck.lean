/- The walks through Check, the program's and the document's. -/
import Derived.Test.YtffenfhbiapefaaNna
import Derived.Test.YtffenfhbiapefaaNod
namespace Go.Proofs.Ytffenfhbiapefaa
set_option linter.unusedVariables false
set_option linter.unusedSimpArgs false
open Go.RowKit

section
variable {P : Program} {w : World} {ops : Array Oper} {rest : List Oper} {o : Oper} {a : Act} {K : Exit → Act → World → Prop}
theorem gate0 (_hN : o.dst = none) (h : wpList P ops K (o :: rest) a w) : wpList P ops K (o :: rest) a w := h
theorem wpList_run_gd {v : Value} (hwant : Region.wanted o (yielded ops a.tmps) = true) (hr : (execOp a.eval o).run P w = .ok (.value v) w) (hw : wpList P ops K rest (a.put o.dst v) w) : wpList P ops K (o :: rest) a w := by
  show (if Region.wanted o (yielded ops a.tmps) = true then _ else _)
  rw [if_pos hwant]
  refine .inl ?_
  unfold Oper.wp
  rw [hr]
  exact hw
end

/-- Has a node what its kind has, and nothing else? -/
def fitsP (kd sz : Int) (tg : ByteArray) (pn : Nat) (zb : Bool) : Bool :=
  if kd = 0 then decide (tg.toList = [] ∧ zb = true ∧ (0 ≤ sz ∧ sz ≤ 1048576) ∧ (pn : Int) ≤ sz ∧ ((pn : Int) = 0 ↔ sz = 0))
  else if kd = 1 then decide (tg.toList = [] ∧ (pn : Int) = 0 ∧ sz = 0)
  else if kd = 2 then decide ((1 ≤ (tg.size : Int) ∧ (tg.size : Int) ≤ 4095) ∧ (pn : Int) = 0 ∧ sz = 0 ∧ zb = true)
  else false
def fitsB (n : Nd) : Bool := fitsP n.kind n.size n.target n.ids.length (decide (n.tree = noId))
def withinB (n lo hi : Int) : Bool := decide (lo ≤ n ∧ n ≤ hi)
set_option maxHeartbeats 1000000 in
theorem within_ok (n lo hi : Int) (w : World) : Calls Try.prog 26 #[.int .i64 n, .int .i64 lo, .int .i64 hi] w fun e w' => e = .returned (.bool (withinB n lo hi)) ∧ w = w' := by
  unfold withinB
  by_cases h : lo ≤ n
  · by_cases h2 : n ≤ hi
    · go_enter Try.func26, Try.ntmps26
      go_wp2
      go_ret
      exact ⟨ret_bool (by simp [h, h2]), rfl⟩
    · go_enter Try.func26, Try.ntmps26
      go_wp2
      go_ret
      exact ⟨ret_bool (by simp; omega), rfl⟩
  · go_enter Try.func26, Try.ntmps26
    go_wp2
    go_ret
    exact ⟨ret_bool (by simp; omega), rfl⟩
set_option maxHeartbeats 8000000 in
set_option maxRecDepth 100000 in
theorem fits_ok (n : Nd) (A : Option Addr) (pn pc : Nat) (w : World) (hp : n.ids.length = pn) (ht : n.tree.length = 32) (hpm : pn ≤ 9223372036854775807) (hts : n.target.size ≤ 9223372036854775807) :
    Calls Try.prog 27 #[.agg (ndC n A pn pc)] w fun e w' => e = .returned (.bool (fitsB n)) ∧ Q w w' := by
  have HWI := Lib.hid (fun n lo hi w => within_ok n lo hi w)
  unfold fitsB
  rw [hp]
  obtain ⟨zb, hzb⟩ : ∃ zb, zb = decide (n.tree = noId) := ⟨_, rfl⟩
  rw [← hzb]
  obtain ⟨kd, hkd⟩ : ∃ kd, kd = n.kind := ⟨_, rfl⟩
  obtain ⟨sz, hsz⟩ : ∃ sz, sz = n.size := ⟨_, rfl⟩
  obtain ⟨tg, htg⟩ : ∃ tg, tg = n.target := ⟨_, rfl⟩
  rw [← htg] at hts
  rw [← hkd, ← hsz, ← htg]
  have HT := Lib.hid ht
  have HZ := Lib.hid hzb
  have HKD := Lib.hid hkd
  have HSZ := Lib.hid hsz
  have HTG := Lib.hid htg
  clear hp ht hzb hkd hsz htg
  by_cases k0 : kd = 0
  · subst k0
    go_enter Try.func27, Try.ntmps27
    go_wp2_with (first
      | ((with_reducible refine gate 1 rfl ?_); go_loud (refine wpList_box_row rfl 33 (.tmp 0) rfl _ rfl 39 _ (nd_agg n A pn pc) ?_; intro w1 hr1 hx1; have H1 := Lib.hid (And.intro (NodeAt.of_row hr1) (hx1.q (Q.refl _))); obtain ⟨_, c1, _, _, c4, c5, c6⟩ := nd_cells H1.out.1; rw [← HKD.out] at c1; rw [← HSZ.out] at c4; rw [← HTG.out] at c5; clear hr1 hx1))
      | ((with_reducible refine gate 9 rfl ?_); (refine wpList_run_gd (by rfl) (load_id 7 (.tmp 8) rfl rfl H1.out.1.tree) ?_))
      | ((with_reducible refine gate 10 rfl ?_); (refine wpList_run_gd (by rfl) (run_no_id _ _ _ rfl) ?_))
      | ((with_reducible refine gate 11 rfl ?_); (refine wpList_run_gd (by rfl) (run_eql_id _ n.tree noId HT.out noId_len _ _ _ _ rfl rfl rfl _) ?_; rw [← HZ.out]))
      | ((with_reducible refine gate 76 rfl ?_); (refine wpList_run_gd (by rfl) (load_id 7 (.tmp 75) rfl rfl H1.out.1.tree) ?_))
      | ((with_reducible refine gate 77 rfl ?_); (refine wpList_run_gd (by rfl) (run_no_id _ _ _ rfl) ?_))
      | ((with_reducible refine gate 78 rfl ?_); (refine wpList_run_gd (by rfl) (run_eql_id _ n.tree noId HT.out noId_len _ _ _ _ rfl rfl rfl _) ?_; rw [← HZ.out]))
      | (go_at_call 26; go_loud ((with_reducible refine (HWI.out _ _ _ _).mono ?_); rintro e w3 ⟨rfl, rfl⟩)))
    all_goals
      go_ret
      refine ⟨ret_bool ?_, H1.out.2⟩
      clear HT HZ HKD HSZ HTG HWI H1
      simp_all [fitsP, withinB]
      (try (first | rfl | omega | (by_cases hp0 : pn = 0 <;> by_cases hs0 : sz = 0 <;> simp_all; done) | (rw [Bool.eq_iff_iff]; simp; omega) | (by_cases hp0 : pn = 0 <;> by_cases hs0 : sz = 0 <;> simp_all <;> rw [Bool.eq_iff_iff] <;> simp <;> omega)))
  · by_cases k1 : kd = 1
    · subst k1
      go_enter Try.func27, Try.ntmps27
      go_wp2_with (first
        | ((with_reducible refine gate 1 rfl ?_); go_loud (refine wpList_box_row rfl 33 (.tmp 0) rfl _ rfl 39 _ (nd_agg n A pn pc) ?_; intro w1 hr1 hx1; have H1 := Lib.hid (And.intro (NodeAt.of_row hr1) (hx1.q (Q.refl _))); obtain ⟨_, c1, _, _, c4, c5, c6⟩ := nd_cells H1.out.1; rw [← HKD.out] at c1; rw [← HSZ.out] at c4; rw [← HTG.out] at c5; clear hr1 hx1))
        | ((with_reducible refine gate 9 rfl ?_); (refine wpList_run_gd (by rfl) (load_id 7 (.tmp 8) rfl rfl H1.out.1.tree) ?_))
        | ((with_reducible refine gate 10 rfl ?_); (refine wpList_run_gd (by rfl) (run_no_id _ _ _ rfl) ?_))
        | ((with_reducible refine gate 11 rfl ?_); (refine wpList_run_gd (by rfl) (run_eql_id _ n.tree noId HT.out noId_len _ _ _ _ rfl rfl rfl _) ?_; rw [← HZ.out]))
        | ((with_reducible refine gate 76 rfl ?_); (refine wpList_run_gd (by rfl) (load_id 7 (.tmp 75) rfl rfl H1.out.1.tree) ?_))
        | ((with_reducible refine gate 77 rfl ?_); (refine wpList_run_gd (by rfl) (run_no_id _ _ _ rfl) ?_))
        | ((with_reducible refine gate 78 rfl ?_); (refine wpList_run_gd (by rfl) (run_eql_id _ n.tree noId HT.out noId_len _ _ _ _ rfl rfl rfl _) ?_; rw [← HZ.out]))
        | (go_at_call 26; go_loud ((with_reducible refine (HWI.out _ _ _ _).mono ?_); rintro e w3 ⟨rfl, rfl⟩)))
      all_goals
        go_ret
        refine ⟨ret_bool ?_, H1.out.2⟩
        clear HT HZ HKD HSZ HTG HWI H1
        simp_all [fitsP, withinB]
        (try (first | rfl | omega | (by_cases hp0 : pn = 0 <;> by_cases hs0 : sz = 0 <;> simp_all; done) | (rw [Bool.eq_iff_iff]; simp; omega) | (by_cases hp0 : pn = 0 <;> by_cases hs0 : sz = 0 <;> simp_all <;> rw [Bool.eq_iff_iff] <;> simp <;> omega)))
    · by_cases k2 : kd = 2
      · subst k2
        rcases Decidable.em (tg.toList = []) with ht0 | ht0
        · have hte : tg.toList.isEmpty = true := List.isEmpty_iff.2 ht0
          go_enter Try.func27, Try.ntmps27
          go_wp2_with (first
            | ((with_reducible refine gate 1 rfl ?_); go_loud (refine wpList_box_row rfl 33 (.tmp 0) rfl _ rfl 39 _ (nd_agg n A pn pc) ?_; intro w1 hr1 hx1; have H1 := Lib.hid (And.intro (NodeAt.of_row hr1) (hx1.q (Q.refl _))); obtain ⟨_, c1, _, _, c4, c5, c6⟩ := nd_cells H1.out.1; rw [← HKD.out] at c1; rw [← HSZ.out] at c4; rw [← HTG.out] at c5; clear hr1 hx1))
            | ((with_reducible refine gate 8 rfl ?_); simp only [hte])
                | ((with_reducible refine gate 9 rfl ?_); (refine wpList_run_gd (by rfl) (load_id 7 (.tmp 8) rfl rfl H1.out.1.tree) ?_))
            | ((with_reducible refine gate 10 rfl ?_); (refine wpList_run_gd (by rfl) (run_no_id _ _ _ rfl) ?_))
            | ((with_reducible refine gate 11 rfl ?_); (refine wpList_run_gd (by rfl) (run_eql_id _ n.tree noId HT.out noId_len _ _ _ _ rfl rfl rfl _) ?_; rw [← HZ.out]))
            | ((with_reducible refine gate 76 rfl ?_); (refine wpList_run_gd (by rfl) (load_id 7 (.tmp 75) rfl rfl H1.out.1.tree) ?_))
            | ((with_reducible refine gate 77 rfl ?_); (refine wpList_run_gd (by rfl) (run_no_id _ _ _ rfl) ?_))
            | ((with_reducible refine gate 78 rfl ?_); (refine wpList_run_gd (by rfl) (run_eql_id _ n.tree noId HT.out noId_len _ _ _ _ rfl rfl rfl _) ?_; rw [← HZ.out]))
            | (go_at_call 26; go_loud ((with_reducible refine (HWI.out _ _ _ _).mono ?_); rintro e w3 ⟨rfl, rfl⟩)))
          all_goals
            go_ret
            refine ⟨ret_bool ?_, H1.out.2⟩
            clear HT HZ HKD HSZ HTG HWI H1
            simp_all [fitsP, withinB]
            (try (first | rfl | omega | (by_cases hp0 : pn = 0 <;> by_cases hs0 : sz = 0 <;> simp_all; done) | (rw [Bool.eq_iff_iff]; simp; omega) | (by_cases hp0 : pn = 0 <;> by_cases hs0 : sz = 0 <;> simp_all <;> rw [Bool.eq_iff_iff] <;> simp <;> omega)))
        · have hte : tg.toList.isEmpty = false := by cases h : tg.toList.isEmpty; rfl; exact absurd (List.isEmpty_iff.1 h) ht0
          go_enter Try.func27, Try.ntmps27
          go_wp2_with (first
            | ((with_reducible refine gate 1 rfl ?_); go_loud (refine wpList_box_row rfl 33 (.tmp 0) rfl _ rfl 39 _ (nd_agg n A pn pc) ?_; intro w1 hr1 hx1; have H1 := Lib.hid (And.intro (NodeAt.of_row hr1) (hx1.q (Q.refl _))); obtain ⟨_, c1, _, _, c4, c5, c6⟩ := nd_cells H1.out.1; rw [← HKD.out] at c1; rw [← HSZ.out] at c4; rw [← HTG.out] at c5; clear hr1 hx1))
            | ((with_reducible refine gate 8 rfl ?_); simp only [hte])
                | ((with_reducible refine gate 9 rfl ?_); (refine wpList_run_gd (by rfl) (load_id 7 (.tmp 8) rfl rfl H1.out.1.tree) ?_))
            | ((with_reducible refine gate 10 rfl ?_); (refine wpList_run_gd (by rfl) (run_no_id _ _ _ rfl) ?_))
            | ((with_reducible refine gate 11 rfl ?_); (refine wpList_run_gd (by rfl) (run_eql_id _ n.tree noId HT.out noId_len _ _ _ _ rfl rfl rfl _) ?_; rw [← HZ.out]))
            | ((with_reducible refine gate 76 rfl ?_); (refine wpList_run_gd (by rfl) (load_id 7 (.tmp 75) rfl rfl H1.out.1.tree) ?_))
            | ((with_reducible refine gate 77 rfl ?_); (refine wpList_run_gd (by rfl) (run_no_id _ _ _ rfl) ?_))
            | ((with_reducible refine gate 78 rfl ?_); (refine wpList_run_gd (by rfl) (run_eql_id _ n.tree noId HT.out noId_len _ _ _ _ rfl rfl rfl _) ?_; rw [← HZ.out]))
            | (go_at_call 26; go_loud ((with_reducible refine (HWI.out _ _ _ _).mono ?_); rintro e w3 ⟨rfl, rfl⟩)))
          all_goals
            go_ret
            refine ⟨ret_bool ?_, H1.out.2⟩
            clear HT HZ HKD HSZ HTG HWI H1
            simp_all [fitsP, withinB]
            (try (first | rfl | omega | (by_cases hp0 : pn = 0 <;> by_cases hs0 : sz = 0 <;> simp_all; done) | (rw [Bool.eq_iff_iff]; simp; omega) | (by_cases hp0 : pn = 0 <;> by_cases hs0 : sz = 0 <;> simp_all <;> rw [Bool.eq_iff_iff] <;> simp <;> omega)))
      · have b0 : (kd == 0) = false := beq_eq_false_iff_ne.2 k0
        have b1 : (kd == 1) = false := beq_eq_false_iff_ne.2 k1
        have b2 : (kd == 2) = false := beq_eq_false_iff_ne.2 k2
        rcases Decidable.em (tg.toList = []) with ht0 | ht0
        · have hte : tg.toList.isEmpty = true := List.isEmpty_iff.2 ht0
          go_enter Try.func27, Try.ntmps27
          go_wp2_with (first
            | ((with_reducible refine gate 1 rfl ?_); go_loud (refine wpList_box_row rfl 33 (.tmp 0) rfl _ rfl 39 _ (nd_agg n A pn pc) ?_; intro w1 hr1 hx1; have H1 := Lib.hid (And.intro (NodeAt.of_row hr1) (hx1.q (Q.refl _))); obtain ⟨_, c1, _, _, c4, c5, c6⟩ := nd_cells H1.out.1; rw [← HKD.out] at c1; rw [← HSZ.out] at c4; rw [← HTG.out] at c5; clear hr1 hx1))
            | ((with_reducible refine gate 8 rfl ?_); simp only [hte])
                | ((with_reducible refine gate 9 rfl ?_); (refine wpList_run_gd (by rfl) (load_id 7 (.tmp 8) rfl rfl H1.out.1.tree) ?_))
            | ((with_reducible refine gate 10 rfl ?_); (refine wpList_run_gd (by rfl) (run_no_id _ _ _ rfl) ?_))
            | ((with_reducible refine gate 11 rfl ?_); (refine wpList_run_gd (by rfl) (run_eql_id _ n.tree noId HT.out noId_len _ _ _ _ rfl rfl rfl _) ?_; rw [← HZ.out]))
            | ((with_reducible refine gate 76 rfl ?_); (refine wpList_run_gd (by rfl) (load_id 7 (.tmp 75) rfl rfl H1.out.1.tree) ?_))
            | ((with_reducible refine gate 77 rfl ?_); (refine wpList_run_gd (by rfl) (run_no_id _ _ _ rfl) ?_))
            | ((with_reducible refine gate 78 rfl ?_); (refine wpList_run_gd (by rfl) (run_eql_id _ n.tree noId HT.out noId_len _ _ _ _ rfl rfl rfl _) ?_; rw [← HZ.out]))
            | (go_at_call 26; go_loud ((with_reducible refine (HWI.out _ _ _ _).mono ?_); rintro e w3 ⟨rfl, rfl⟩)))
          all_goals
            go_ret
            refine ⟨ret_bool ?_, H1.out.2⟩
            clear HT HZ HKD HSZ HTG HWI H1
            simp_all [fitsP, withinB]
            (try (first | rfl | omega | (by_cases hp0 : pn = 0 <;> by_cases hs0 : sz = 0 <;> simp_all; done) | (rw [Bool.eq_iff_iff]; simp; omega) | (by_cases hp0 : pn = 0 <;> by_cases hs0 : sz = 0 <;> simp_all <;> rw [Bool.eq_iff_iff] <;> simp <;> omega)))
        · have hte : tg.toList.isEmpty = false := by cases h : tg.toList.isEmpty; rfl; exact absurd (List.isEmpty_iff.1 h) ht0
          go_enter Try.func27, Try.ntmps27
          go_wp2_with (first
            | ((with_reducible refine gate 1 rfl ?_); go_loud (refine wpList_box_row rfl 33 (.tmp 0) rfl _ rfl 39 _ (nd_agg n A pn pc) ?_; intro w1 hr1 hx1; have H1 := Lib.hid (And.intro (NodeAt.of_row hr1) (hx1.q (Q.refl _))); obtain ⟨_, c1, _, _, c4, c5, c6⟩ := nd_cells H1.out.1; rw [← HKD.out] at c1; rw [← HSZ.out] at c4; rw [← HTG.out] at c5; clear hr1 hx1))
            | ((with_reducible refine gate 8 rfl ?_); simp only [hte])
                | ((with_reducible refine gate 9 rfl ?_); (refine wpList_run_gd (by rfl) (load_id 7 (.tmp 8) rfl rfl H1.out.1.tree) ?_))
            | ((with_reducible refine gate 10 rfl ?_); (refine wpList_run_gd (by rfl) (run_no_id _ _ _ rfl) ?_))
            | ((with_reducible refine gate 11 rfl ?_); (refine wpList_run_gd (by rfl) (run_eql_id _ n.tree noId HT.out noId_len _ _ _ _ rfl rfl rfl _) ?_; rw [← HZ.out]))
            | ((with_reducible refine gate 76 rfl ?_); (refine wpList_run_gd (by rfl) (load_id 7 (.tmp 75) rfl rfl H1.out.1.tree) ?_))
            | ((with_reducible refine gate 77 rfl ?_); (refine wpList_run_gd (by rfl) (run_no_id _ _ _ rfl) ?_))
            | ((with_reducible refine gate 78 rfl ?_); (refine wpList_run_gd (by rfl) (run_eql_id _ n.tree noId HT.out noId_len _ _ _ _ rfl rfl rfl _) ?_; rw [← HZ.out]))
            | (go_at_call 26; go_loud ((with_reducible refine (HWI.out _ _ _ _).mono ?_); rintro e w3 ⟨rfl, rfl⟩)))
          all_goals
            go_ret
            refine ⟨ret_bool ?_, H1.out.2⟩
            clear HT HZ HKD HSZ HTG HWI H1
            simp_all [fitsP, withinB]
            (try (first | rfl | omega | (by_cases hp0 : pn = 0 <;> by_cases hs0 : sz = 0 <;> simp_all; done) | (rw [Bool.eq_iff_iff]; simp; omega) | (by_cases hp0 : pn = 0 <;> by_cases hs0 : sz = 0 <;> simp_all <;> rw [Bool.eq_iff_iff] <;> simp <;> omega)))

/-- Is a node in form? 0, or the error. -/
def checkN (n : Nd) : Nat := if nameB n.name then (if withinB n.mode 0 4095 && withinB n.time 0 1099511627776 && fitsB n then 0 else 2) else 5
theorem ret_err {a b : Nat} (h : a = b) : Ending.returned (.int .i64 (a : Int)) = .returned (.int .i64 (b : Int)) := by rw [h]
/-- What a node's cells ask for. -/
structure NdFit (n : Nd) (pn : Nat) : Prop where
  ids : n.ids.length = pn
  tree : n.tree.length = 32
  max : pn ≤ 9223372036854775807
  name : n.name.size ≤ 9223372036854775807
  target : n.target.size ≤ 9223372036854775807
theorem load_node {w : World} {a : Act} {o : Oper} {g off : Nat} {n : Nd} {A : Option Addr} {pn pc : Nat} (x : Operand) (ho : o.op = .load 33 x) (hx : a.eval x = .pointer (some ⟨g, off, none⟩)) (hc : NodeAt w g off n A pn pc) : (execOp a.eval o).run Try.prog w = .ok (.value (.agg (ndC n A pn pc))) w := by
  rw [exec_load_agg 33 x ho g off hx _ Try.underlying33 rfl 39 sizeN (ndF n A pn pc) hc, AggIs.unique (aggIs_range 39 (ndF n A pn pc)) (nd_agg n A pn pc)]
theorem load_rnode {w : World} {a : Act} {o : Oper} {g off : Nat} {n : Nd} {A : Option Addr} {pn pc : Nat} (x : Operand) (ho : o.op = .load 26 x) (hx : a.eval x = .pointer (some ⟨g, off, none⟩)) (hc : NodeAt w g off n A pn pc) : (execOp a.eval o).run Try.prog w = .ok (.value (.agg (ndC n A pn pc))) w := by
  rw [exec_load_agg 26 x ho g off hx _ Try.underlying26 rfl 39 sizeR (ndF n A pn pc) hc, AggIs.unique (aggIs_range 39 (ndF n A pn pc)) (nd_agg n A pn pc)]
set_option maxHeartbeats 8000000 in
set_option maxRecDepth 100000 in
theorem check_ok (n : Nd) (A : Option Addr) (pn pc : Nat) (w : World) (hf : NdFit n pn) :
    Calls Try.prog 12 #[.agg (ndC n A pn pc)] w fun e w' => e = .returned (.int .i64 (checkN n : Int)) ∧ Q w w' := by
  have HWI := Lib.hid (fun n lo hi w => within_ok n lo hi w)
  have HFI := Lib.hid (fun w => fits_ok n A pn pc w hf.ids hf.tree hf.max hf.target)
  have HNA := Lib.hid (fun w => isName_ok n.name w hf.name)
  obtain ⟨fb, hfb⟩ : ∃ b, b = fitsB n := ⟨_, rfl⟩
  obtain ⟨nb, hnb⟩ : ∃ b, b = nameB n.name := ⟨_, rfl⟩
  obtain ⟨md, hmd⟩ : ∃ b, b = n.mode := ⟨_, rfl⟩
  obtain ⟨tm, htm⟩ : ∃ b, b = n.time := ⟨_, rfl⟩
  obtain ⟨nm, hnm⟩ : ∃ b, b = n.name := ⟨_, rfl⟩
  obtain ⟨mb, hmb⟩ : ∃ b, b = withinB md 0 4095 := ⟨_, rfl⟩
  obtain ⟨tb, htb⟩ : ∃ b, b = withinB tm 0 1099511627776 := ⟨_, rfl⟩
  rw [← hfb] at HFI
  rw [← hnb, ← hnm] at HNA
  have HW1 := Lib.hid (fun w => HWI.out md 0 4095 w)
  have HW2 := Lib.hid (fun w => HWI.out tm 0 1099511627776 w)
  rw [← hmb] at HW1
  rw [← htb] at HW2
  have HMD := Lib.hid hmd
  have HTM := Lib.hid htm
  have HNM := Lib.hid hnm
  have HR : Hid (checkN n = if nb then (if mb && tb && fb then 0 else 2) else 5) := Lib.hid (by unfold checkN; rw [hmb, htb, hmd, htm, hfb, hnb])
  clear hfb hnb hmd htm hnm hmb htb hf HWI
  rw [HR.out]
  clear HR
  cases nb
  case' true => cases mb
  case' true.true => cases tb
  case' true.true.true => cases fb
  all_goals
    go_enter Try.func12, Try.ntmps12
    go_wp2_with (first
      | ((with_reducible refine gate 1 rfl ?_); go_loud (refine wpList_box_row rfl 33 (.tmp 0) rfl _ rfl 39 _ (nd_agg n A pn pc) ?_; intro w1 hr1 hx1; have H1 := Lib.hid (And.intro (NodeAt.of_row hr1) (hx1.q (Q.refl _))); have H1lt := hr1.lt; obtain ⟨c0, _, c2, c3, _, _, _⟩ := nd_cells H1.out.1; rw [← HNM.out] at c0; rw [← HMD.out] at c2; rw [← HTM.out] at c3; clear hr1 hx1))
      | (go_at_call 14; go_loud ((with_reducible refine (HNA.out _).mono ?_); rintro e w2 ⟨rfl, hq2⟩; have H2 := Lib.hid (H1.out.2.step hq2); have HN2 : Hid (NodeAt w2 w.heap.size 0 n A pn pc) := Lib.hid (fun i hi => (hq2.cell (p := ⟨w.heap.size, 0 + i, none⟩) H1lt).trans (H1.out.1 i hi)); clear c0 c2 c3; obtain ⟨_, _, c2, c3, _, _, _⟩ := nd_cells HN2.out; rw [← HMD.out] at c2; rw [← HTM.out] at c3; clear hq2))
      | (go_at_call 26; first
          | ((with_reducible refine (HW1.out _).mono ?_); rintro e w3 ⟨rfl, rfl⟩)
          | ((with_reducible refine (HW2.out _).mono ?_); rintro e w3 ⟨rfl, rfl⟩))
      | ((with_reducible refine gate 20 rfl ?_); (refine wpList_run_gd (by rfl) (load_node (.tmp 1) rfl rfl HN2.out) ?_))
      | (go_at_call 27; go_loud ((with_reducible refine (HFI.out _).mono ?_); rintro e w4 ⟨rfl, hq4⟩; have H4 := Lib.hid (H2.out.step hq4); clear hq4)))
    go_ret
    exact ⟨rfl, by first | exact H4.out | exact H2.out⟩

end Go.Proofs.Ytffenfhbiapefaa
