/- KeyMakes. -/
import Derived.Test.YtcdbffgmgfblkaaDoorKei
import Derived.Test.YtcdbffgmgfblkaaDoorRegf
import Derived.Deep.DeepCutAuto
namespace Go.Proofs.YtcdbffgmgfblkaaDoor
set_option linter.unusedVariables false
set_option linter.unusedSimpArgs false
open Go.RowKit

theorem load_ringA {w : World} {a : Act} {o : Oper} {g : Nat} {h m n : List Nat} (x : Operand) (ho : o.op = .load 46 x) (hx : a.eval x = .pointer (some ⟨g, 0, none⟩)) (hr : w.rowIs g 46 96 (ringF h m n)) : (execOp a.eval o).run Tryd.prog w = .ok (.value (.agg (ringC h m n))) w := by
  rw [exec_load_agg 46 x ho g 0 hx _ Tryd.underlying46 rfl 96 info96 (ringF h m n) (row_cells hr), AggIs.unique (aggIs_range 96 (ringF h m n)) (ring_agg h m n)]
theorem load_ringB {w : World} {a : Act} {o : Oper} {g : Nat} {h m n : List Nat} (x : Operand) (ho : o.op = .load 52 x) (hx : a.eval x = .pointer (some ⟨g, 0, none⟩)) (hr : w.rowIs g 52 96 (ringF h m n)) : (execOp a.eval o).run Tryd.prog w = .ok (.value (.agg (ringC h m n))) w := by
  rw [exec_load_agg 52 x ho g 0 hx _ Tryd.underlying52 rfl 96 info96d (ringF h m n) (row_cells hr), AggIs.unique (aggIs_range 96 (ringF h m n)) (ring_agg h m n)]

set_option maxHeartbeats 8000000 in
set_option maxRecDepth 100000 in
theorem keyMakes_walk (Ak : Option Addr) (nk ck mk : Nat) (K : List Nat) (A : Option Addr) (n c m : Nat) (L : List Nat) (t : Int) (w : World) (hG : Glob w) (hmk : mk = min nk 200) (hnk : nk ≤ ck) (hck : ck ≤ 9223372036854775807) (hlk : K.length = mk) (hsk : Sees w w.heap.size Ak (K.map B8)) (hbk : ∀ x ∈ K, x ≤ 255) (hAk : Ak = none → ck = 0)
    (hm : m = min n 200) (hnc : n ≤ c) (hcm : c ≤ 9223372036854775807) (hl : L.length = m) (hs : Sees w w.heap.size A (L.map B8)) (hb : ∀ x ∈ L, x ≤ 255) :
    Calls Tryd.prog 10 #[.slice Ak nk ck, .slice A n c, .int .i64 t] w fun e w' => e = .returned (.bool true) ∧ Below w.heap.size w w' := by
  obtain ⟨i8, hi8, hz80, hz81, hz82⟩ := info_parts info8
  have f1 : (if (200 : Int) < (nk : Int) then 200 else (nk : Int)) = (mk : Int) := by split <;> omega
  have f2 : (if (200 : Int) < (n : Int) then 200 else (n : Int)) = (m : Int) := by split <;> omega
  have f1' : min (nk : Int) 200 = (mk : Int) := by omega
  have f2' : min (n : Int) 200 = (m : Int) := by omega
  have s1 := run_cut_hi (P := Tryd.prog) 22 5 Tryd.underlying22 i8 hi8 Ak nk ck .i64 mk (by omega)
  have s2 := run_cut_hi (P := Tryd.prog) 22 5 Tryd.underlying22 i8 hi8 A n c .i64 m (by omega)
  have hmk3 : mk ≤ 200 := by omega
  have hm3 : m ≤ 200 := by omega
  have HG := Lib.hid hG
  have HL := Lib.hid hl
  have HS := Lib.hid hs
  have HB := Lib.hid hb
  have HLK := Lib.hid hlk
  have HSK := Lib.hid hsk
  have HBK := Lib.hid hbk
  have HAK := Lib.hid hAk
  clear hG hl hs hb hlk hsk hbk hAk hmk hm
  go_enter Tryd.func10, Tryd.ntmps10
  go_wp2_with fail
  go_quiet (fail)
  have HQ0 : Hid (Q w (w.drewN nq)) := (Q.refl w).drewN nq
  generalize w.drewN nq = wq at *
  clear f1 f2 f1' f2' s1 s2
  obtain ⟨t', ht'⟩ : ∃ t', t' = if 20 < t ∧ t ≤ 100000 then t % 20 else t := ⟨_, rfl⟩
  obtain ⟨bb, hbb⟩ : ∃ bb, bb = decide (20 < t ∧ t ≤ 100000) := ⟨_, rfl⟩
  have HTT : Hid (bb = true → t.tmod 20 = t' ∧ t % 20 = t' ∧ IntKind.i64.wrap t' = t') := fun h => by
    rw [hbb, decide_eq_true_iff] at h
    rw [if_pos h] at ht'
    refine ⟨by rw [Int.tmod_eq_emod_of_nonneg (by omega)]; exact ht'.symm, ht'.symm, IntWalk.i64_in _ (by omega)⟩
  have HTF : Hid (bb = false → t = t') := fun h => by
    rw [hbb, decide_eq_false_iff_not] at h
    rw [if_neg h] at ht'
    exact ht'.symm
  have HBB := Lib.hid hbb
  clear ht' hbb
  go_upto_region 2 with fail
  go_cut [26] (fun v wx => v = .bool bb ∧ wx = wq)
  case first =>
    by_cases h1 : 20 < t
    · have d1 : decide (20 < t) = true := decide_eq_true h1
      by_cases h2 : t ≤ 100000
      · have d2 : decide (t ≤ 100000) = true := decide_eq_true h2
        have HV : Hid (bb = true) := by show _ = _; rw [HBB.out]; exact decide_eq_true ⟨h1, h2⟩
        clear h1 h2
        go_wp2_with fail
        go_meet
        exact ⟨by rw [HV.out], rfl⟩
      · have d2 : decide (t ≤ 100000) = false := decide_eq_false h2
        have HV : Hid (bb = false) := by show _ = _; rw [HBB.out]; exact decide_eq_false (fun h => h2 h.2)
        clear h1 h2
        go_wp2_with fail
        go_meet
        exact ⟨by rw [HV.out], rfl⟩
    · have d1 : decide (20 < t) = false := decide_eq_false h1
      have HV : Hid (bb = false) := by show _ = _; rw [HBB.out]; exact decide_eq_false (fun h => h1 h.1)
      clear h1
      go_wp2_with fail
      go_meet
      exact ⟨by rw [HV.out], rfl⟩
  case rest =>
    obtain ⟨rfl, rfl⟩ := hcut
    clear HBB
    go_upto_if 26 with fail
    go_cut [2] (fun v wx => v = .int .i64 t' ∧ wx = wc)
    case first =>
      cases bb
      · have HV := HTF.out rfl
        go_wp2_with fail
        go_meet
        exact ⟨by first | rfl | rw [HV], rfl⟩
      · obtain ⟨e1, e2, e3⟩ := HTT.out rfl
        go_wp2_with fail
        go_meet
        exact ⟨by first | rfl | (rw [e1]) | (rw [e2]), rfl⟩
    case rest =>
      obtain ⟨rfl, hww⟩ := hcut
      have HQ1 : Hid (Q w wc) := by rw [hww]; exact HQ0.out
      clear HTT HTF HQ0 hww
      have hboth : ∃ (x1 x2 x3 : List Nat) (er : Int), (∀ wx, Q wc wx → Calls Tryd.prog 27 #[.slice Ak mk ck, .slice A m c, .int .i64 t'] wx fun e w' => e = .returned (.tuple #[.agg (ringC x1 x2 x3), .int .i64 er]) ∧ Hid (Q wx w')) ∧ (∀ wx, Calls Tryd.prog 28 #[.string (strB K), .string (strB L), .int .i64 t'] wx fun e w' => e = .returned (.tuple #[.agg (ringC x1 x2 x3), .int .i64 er]) ∧ Hid (Q wx w')) := by
        by_cases hbad : mk = 0 ∨ m ≠ 16 ∨ t' < 0 ∨ 100000 < t'
        · exact ⟨Z32, Z32, Z32, 1, fun wx _ => make_bad Ak mk ck A m c t' wx hbad, fun wx => docMake_bad K L t' wx (hbad.imp (fun h => List.eq_nil_of_length_eq_zero (by rw [HLK.out]; exact h)) (Or.imp (fun h => by rw [HL.out]; exact h) id))⟩
        · have g1 : mk ≠ 0 := fun h => hbad (.inl h)
          have g2 : m = 16 := Classical.byContradiction fun h => hbad (.inr (.inl h))
          have g3 : 0 ≤ t' := by
            rcases Int.lt_or_le t' 0 with h | h
            · exact absurd (.inr (.inr (.inl h))) hbad
            · exact h
          have g4 : t' ≤ 100000 := by
            rcases Int.lt_or_le 100000 t' with h | h
            · exact absurd (.inr (.inr (.inr h))) hbad
            · exact h
          have g5 : t' = (t'.toNat : Int) := (Int.toNat_of_nonneg g3).symm
          exact ⟨_, _, _, 0, fun wx hq => make_ok Ak mk ck K A m c L t' t'.toNat wx (HG.out.q (HQ1.out.trans' hq)) HLK.out (SeesP.on HSK.out (HQ1.out.trans' hq)) HBK.out HAK.out (by omega) HL.out (SeesP.on HS.out (HQ1.out.trans' hq)) HB.out g1 g2 g3 g4 g5,
            fun wx => docMake_ok K L t' t'.toNat wx HBK.out (by rw [HLK.out]; omega) HB.out (fun h => g1 (by rw [← HLK.out, h]; rfl)) (by rw [HL.out]; exact g2) g3 g4 g5⟩
      obtain ⟨x1, x2, x3, er, hm1, hm2⟩ := hboth
      have HM1 := Lib.hid hm1
      have HM2 := Lib.hid hm2
      clear hm1 hm2
      go_wp2_with (first
        | (go_at_call 27; (with_reducible refine (HM1.out wc (Q.refl wc)).mono ?_); rintro e w1 ⟨rfl, H1⟩)
        | (refine gate 7 rfl ?_; go_loud (refine wpList_alloc_row rfl 46 rfl _ (zeroR _) 96 (ringF Z32 Z32 Z32) (ringC_size _ _ _) (ringC_get _ _ _) ?_; intro w2 hr2 hx2; have H2 := Lib.hid (And.intro hr2 hx2); clear hr2 hx2))
        | (refine wpList_store_all rfl 46 (.tmp 7) (.tmp 34) rfl w1.heap.size rfl _ rfl 96 info96 _ (ring_agg x1 x2 x3) (fun i _ => ring_one _ _ _ i) 46 _ H2.out.1 ?_; intro w3 hr3 hp3; have H3 : Hid (w3.rowIs w1.heap.size 46 96 (ringF x1 x2 x3) ∧ Q wc w3) := ⟨hr3, hp3.q (H2.out.2.q H1.out) H1.out.size⟩; clear hr3 hp3)
        | (refine gate 38 rfl ?_; go_loud (refine wpList_convert_sees rfl 22 9 5 (.tmp 37) rfl Tryd.underlying22 Tryd.underlying5 Tryd.underlying9 _ Ak mk ck K rfl HLK.out (SeesP.on HSK.out (HQ1.out.trans' H3.out.2)) ?_))
        | (refine gate 40 rfl ?_; go_loud (refine wpList_convert_sees rfl 22 9 5 (.tmp 39) rfl Tryd.underlying22 Tryd.underlying5 Tryd.underlying9 _ A m c L rfl HL.out (SeesP.on HS.out (HQ1.out.trans' H3.out.2)) ?_))
        | (go_at_call 28; (with_reducible refine (HM2.out _).mono ?_); rintro e w4 ⟨rfl, H4⟩)
        | (refine gate 9 rfl ?_; go_loud (refine wpList_alloc_row rfl 52 rfl _ (zeroR2 _) 96 (ringF Z32 Z32 Z32) (ringC_size _ _ _) (ringC_get _ _ _) ?_; intro w5 hr5 hx5; have H5 := Lib.hid (And.intro hr5 hx5); clear hr5 hx5))
        | (refine wpList_store_all rfl 52 (.tmp 9) (.tmp 43) rfl w4.heap.size rfl _ rfl 96 info96d _ (ring_agg x1 x2 x3) (fun i _ => ring_one _ _ _ i) 52 _ H5.out.1 ?_; intro w6 hr6 hp6; have H6 : Hid (w6.rowIs w4.heap.size 52 96 (ringF x1 x2 x3) ∧ Q w3 w6) := ⟨hr6, hp6.q (H5.out.2.q H4.out) H4.out.size⟩; clear hr6 hp6))
      have HRA : Hid (w6.rowIs w1.heap.size 46 96 (ringF x1 x2 x3)) := row_q H6.out.2 H3.out.1
      have HRB : Hid (w6.rowIs w4.heap.size 52 96 (ringF x1 x2 x3)) := H6.out.1
      have HQ6 : Hid (Q w w6) := HQ1.out.trans' (H3.out.2.trans' H6.out.2)
      refine wp_region_facts (by kernel_rfl) (by kernel_rfl) (factsOf [.is (.bool true), .is (.bool true), .is (.agg (ringC x1 x2 x3)), .is (.agg (ringC x1 x2 x3)), .is (.agg (ringC x1 x2 x3)), .is (.bool true), .is (.bool true), .is (.bool true), .is (.int .i64 er), .is (.int .i64 er), .is (.bool true), .is (.bool true), .is (.bool true)]) (factsOf_stays _) ?_ ?_
      · refine ⟨?_, ?_, ?_, ?_, ?_, ?_, ?_, ?_, ?_, ?_, ?_, ?_, ?_, trivial⟩
        · intro ax wx hq hfr hd
          exact .inl ⟨wanted_free rfl, OpDoes.call (f := 29) (args := #[]) (w' := wx) (by unfold execOp; simp [go_sem, Act.eval]) ((rings_ok wx (HG.out.q (HQ6.out.trans' hq))).mono fun e w2 h => ⟨_, h.1, h.2.out, rfl⟩)⟩
        · intro ax wx hq hfr hd
          have f45 : ax.tmps.getD 45 undef = .bool true := hd 0 (by kernel_rfl) _ _ rfl rfl
          have e45 := (getD_form _ _).symm.trans f45
          exact .inl ⟨wanted_free rfl, OpDoes.run (v := .bool true) (w' := wx) (by unfold execOp; simp only [Act.eval, f45, Sem.run_pure]) ⟨Below.refl _ _, rfl⟩⟩
        · intro ax wx hq hfr hd
          have f7 : ax.tmps.getD 7 undef = .pointer (some ⟨w1.heap.size, 0, none⟩) := (hfr 7 (noDst_spec (by kernel_rfl))).trans rfl
          have e7 := (getD_form _ _).symm.trans f7
          exact .inl ⟨wanted_on rfl rfl rfl (hd 1 (by kernel_rfl) _ _ rfl rfl), OpDoes.run (v := .agg (ringC x1 x2 x3)) (w' := wx) (load_ringA (.tmp 7) rfl f7 (row_q hq HRA.out)) ⟨Below.refl _ _, rfl⟩⟩
        · intro ax wx hq hfr hd
          have f47 : ax.tmps.getD 47 undef = .agg (ringC x1 x2 x3) := hd 2 (by kernel_rfl) _ _ rfl rfl
          have e47 := (getD_form _ _).symm.trans f47
          exact .inl ⟨wanted_on rfl rfl rfl (hd 1 (by kernel_rfl) _ _ rfl rfl), OpDoes.call (f := 30) (args := #[.agg (ringC x1 x2 x3)]) (w' := wx) (by unfold execOp; simp [go_sem, Act.eval, e47]) ((from_ok x1 x2 x3 wx).mono fun e w2 h => ⟨_, h.1, h.2.out, rfl⟩)⟩
        · intro ax wx hq hfr hd
          have f9 : ax.tmps.getD 9 undef = .pointer (some ⟨w4.heap.size, 0, none⟩) := (hfr 9 (noDst_spec (by kernel_rfl))).trans rfl
          have e9 := (getD_form _ _).symm.trans f9
          exact .inl ⟨wanted_on rfl rfl rfl (hd 1 (by kernel_rfl) _ _ rfl rfl), OpDoes.run (v := .agg (ringC x1 x2 x3)) (w' := wx) (load_ringB (.tmp 9) rfl f9 (row_q hq HRB.out)) ⟨Below.refl _ _, rfl⟩⟩
        · intro ax wx hq hfr hd
          have f48 : ax.tmps.getD 48 undef = .agg (ringC x1 x2 x3) := hd 3 (by kernel_rfl) _ _ rfl rfl
          have e48 := (getD_form _ _).symm.trans f48
          have f49 : ax.tmps.getD 49 undef = .agg (ringC x1 x2 x3) := hd 4 (by kernel_rfl) _ _ rfl rfl
          have e49 := (getD_form _ _).symm.trans f49
          exact .inl ⟨wanted_on rfl rfl rfl (hd 1 (by kernel_rfl) _ _ rfl rfl), OpDoes.run (v := .bool true) (w' := wx) (run_eq_ring _ x1 x2 x3 _ _ _ _ rfl f48 f49 _) ⟨Below.refl _ _, rfl⟩⟩
        · intro ax wx hq hfr hd
          have f46 : ax.tmps.getD 46 undef = .bool true := hd 1 (by kernel_rfl) _ _ rfl rfl
          have e46 := (getD_form _ _).symm.trans f46
          have f50 : ax.tmps.getD 50 undef = .bool true := hd 5 (by kernel_rfl) _ _ rfl rfl
          have e50 := (getD_form _ _).symm.trans f50
          exact .inl ⟨wanted_free rfl, OpDoes.run (v := .bool true) (w' := wx) (by unfold execOp; simp [go_sem, Act.eval, e46, e50]) ⟨Below.refl _ _, rfl⟩⟩
        · intro ax wx hq hfr hd
          have f51 : ax.tmps.getD 51 undef = .bool true := hd 6 (by kernel_rfl) _ _ rfl rfl
          have e51 := (getD_form _ _).symm.trans f51
          exact .inl ⟨wanted_free rfl, OpDoes.run (v := .bool true) (w' := wx) (by unfold execOp; simp only [Act.eval, f51, Sem.run_pure]) ⟨Below.refl _ _, rfl⟩⟩
        · intro ax wx hq hfr hd
          have f8 : ax.tmps.getD 8 undef = .int .i64 er := (hfr 8 (noDst_spec (by kernel_rfl))).trans rfl
          have e8 := (getD_form _ _).symm.trans f8
          exact .inl ⟨wanted_on rfl rfl rfl (hd 7 (by kernel_rfl) _ _ rfl rfl), OpDoes.run (v := .int .i64 er) (w' := wx) (by unfold execOp; simp only [Act.eval, f8, Sem.run_pure]) ⟨Below.refl _ _, rfl⟩⟩
        · intro ax wx hq hfr hd
          have f10 : ax.tmps.getD 10 undef = .int .i64 er := (hfr 10 (noDst_spec (by kernel_rfl))).trans rfl
          have e10 := (getD_form _ _).symm.trans f10
          exact .inl ⟨wanted_on rfl rfl rfl (hd 7 (by kernel_rfl) _ _ rfl rfl), OpDoes.run (v := .int .i64 er) (w' := wx) (by unfold execOp; simp only [Act.eval, f10, Sem.run_pure]) ⟨Below.refl _ _, rfl⟩⟩
        · intro ax wx hq hfr hd
          have f53 : ax.tmps.getD 53 undef = .int .i64 er := hd 8 (by kernel_rfl) _ _ rfl rfl
          have e53 := (getD_form _ _).symm.trans f53
          have f54 : ax.tmps.getD 54 undef = .int .i64 er := hd 9 (by kernel_rfl) _ _ rfl rfl
          have e54 := (getD_form _ _).symm.trans f54
          exact .inl ⟨wanted_on rfl rfl rfl (hd 7 (by kernel_rfl) _ _ rfl rfl), OpDoes.run (v := .bool true) (w' := wx) (by unfold execOp; simp [go_sem, Act.eval, e53, e54]) ⟨Below.refl _ _, rfl⟩⟩
        · intro ax wx hq hfr hd
          have f52 : ax.tmps.getD 52 undef = .bool true := hd 7 (by kernel_rfl) _ _ rfl rfl
          have e52 := (getD_form _ _).symm.trans f52
          have f55 : ax.tmps.getD 55 undef = .bool true := hd 10 (by kernel_rfl) _ _ rfl rfl
          have e55 := (getD_form _ _).symm.trans f55
          exact .inl ⟨wanted_free rfl, OpDoes.run (v := .bool true) (w' := wx) (by unfold execOp; simp [go_sem, Act.eval, e52, e55]) ⟨Below.refl _ _, rfl⟩⟩
        · intro ax wx hq hfr hd
          have f56 : ax.tmps.getD 56 undef = .bool true := hd 11 (by kernel_rfl) _ _ rfl rfl
          have e56 := (getD_form _ _).symm.trans f56
          exact .inl ⟨wanted_free rfl, OpDoes.run (v := .bool true) (w' := wx) (by unfold execOp; simp only [Act.eval, f56, Sem.run_pure]) ⟨Below.refl _ _, rfl⟩⟩
      · intro ax wx inv
        have f6 : ax.tmps.getD 6 undef = .bool true := inv.fact 12 _ _ rfl rfl (by simp)
        have hdf : ax.defers = [] := inv.defers
        have HQX : Hid (Q w6 wx) := inv.q
        clear inv
        go_wp2_with fail
        refine bodyPost_ret (results_tmp rfl _ _ _) hdf ⟨?_, HQ6.out.trans' HQX.out⟩
        rw [f6]
theorem keyMakes_true (Ak : Option Addr) (nk ck : Nat) (zk : List Int) (A : Option Addr) (n c : Nat) (zs : List Int) (t : Int) (_ : (Lit.int .i64 t).wf = true) (w : World) (wk : IsRow .u8 w Ak nk ck zk) (w0 : IsRow .u8 w A n c zs) (hG : Glob w) :
    Calls Tryd.prog 10 #[.slice Ak nk ck, .slice A n c, .int .i64 t] w fun e w' => e = .returned (.bool true) ∧ Below w.heap.size w w' := by
  obtain ⟨h1, h2, h3, h4, h5, h6⟩ := row8 w0 (min n 200) (by omega)
  obtain ⟨k1, k2, k3, k4, k5, k6⟩ := row8 wk (min nk 200) (by omega)
  exact keyMakes_walk Ak nk ck _ _ A n c _ _ t w hG rfl k4 k5 k1 k2 k3 k6 rfl h4 h5 h1 h2 h3
end Go.Proofs.YtcdbffgmgfblkaaDoor
