/- The walk through node.Decode. -/
import Derived.Test.YtffenfhbiapefaaMdo
import Derived.Test.YtffenfhbiapefaaNfi
namespace Go.Proofs.Ytffenfhbiapefaa
set_option linter.unusedVariables false
set_option linter.unusedSimpArgs false
open Go.RowKit

theorem wanted_undef {o : Oper} {ops : Array Oper} {a : Act} {g d : Nat} {og : Oper} {b : Bool} (h : o.guard = some (g, b)) (hg : ops[g]? = some og) (hd : og.dst = some d) (hv : a.tmps.getD d undef = undef) : Region.wanted o (yielded ops a.tmps) = false := by
  unfold Region.wanted
  rw [h]
  rw [Array.getD_eq_getD_getElem?] at hv
  rcases ht : a.tmps[d]? with _ | u
  · simp [yielded, hg, hd, ht]
  · rw [ht] at hv
    have hu : u = undef := hv
    subst hu
    simp [yielded, hg, hd, ht, undef]
set_option maxHeartbeats 16000000 in
set_option maxRecDepth 100000 in
theorem decode_ok (A0 : Option Addr) (c0 m0 : Nat) (L : List Nat) (ok : Nat → Prop) (w : World) (hm : L.length = m0) (hs : SeesP w ok A0 (L.map B8)) (hok : ∀ b, ok b → b < w.heap.size) (hby : ∀ x ∈ L, x ≤ 255) (hlen : m0 ≤ 140737488355328) (hmc : m0 ≤ c0) (hc : c0 ≤ 9223372036854775807) (hAc : A0 = none → c0 = 0) :
    Calls Try.prog 25 #[.slice A0 m0 c0] w (DecOut 33 w (decN L)) := by
  obtain ⟨iN, hiN, hzN0, hzN1, hzN2⟩ := info_parts infoN
  have HOP := Lib.hid (openZ w 110 110 rfl (by omega) A0 c0 m0 L ok hm hs hok hby hlen hmc hc hAc)
  obtain ⟨⟨e0, B0⟩, ho⟩ : ∃ r, openRd 110 L = r := ⟨_, rfl⟩
  obtain ⟨⟨cnt, s0⟩, hn⟩ : ∃ r, numRd 2000 (e0, B0) = r := ⟨_, rfl⟩
  rw [ho] at HOP
  obtain ⟨r, hr⟩ : ∃ r, decN L = r := ⟨_, rfl⟩
  have hr2 := hr
  unfold decN at hr2
  rw [ho, hn] at hr2
  simp only at hr2
  have HR := Lib.hid hr2
  have hbB : ∀ x ∈ B0, x ≤ 255 := by
    unfold openRd at ho
    split at ho
    · split at ho
      · rw [Prod.mk.injEq] at ho; rw [← ho.2]; simp
      · rw [Prod.mk.injEq] at ho; rw [← ho.2]; exact fun x hx => hby x (List.mem_of_mem_drop hx)
    · rw [Prod.mk.injEq] at ho; rw [← ho.2]; simp
  have hcn := numRd_le (s := (e0, B0)) hbB (by omega) hn
  rw [hr]
  have hcnt : cnt ≤ 2000 := by omega
  clear hr hr2 hm hs hok hby hlen hmc hc hAc hbB hcn ho
  go_enter Try.func25, Try.ntmps25
  go_wp2_with (first
    | (go_at_call 43; go_loud ((with_reducible refine (HOP.out).mono ?_); rintro e1 w1 ⟨g, rfl, hin1, hq1⟩; have HG := Lib.hid (And.intro hin1.new hin1.lt); have HQ1 := Lib.hid hq1; have HI1 := Lib.hid (hin1.cap.lower (b' := fun k => k < w1.heap.size) (fun k hk => hk.2)); have HNM := numK (base := fun k => k < w1.heap.size) (g := g) (by omega) hn; have HIL : Hid (InLike g w1.heap.size (fun w s => InHas w (fun k => k < w1.heap.size) g s.1 s.2)) := Lib.hid (inLike_of hin1.lt (fun k hk => hk)); clear hin1 hq1))
    | (go_at_call 44; go_loud ((with_reducible refine (HNM.out _ HI1.out).mono ?_); rintro e2 w2 ⟨rfl, hin2, ho2⟩; have HI2 := Lib.hid hin2; have HO2 := Lib.hid ho2; clear hin2 ho2)))
  obtain ⟨b', hb'⟩ : ∃ b' : Nat → Prop, b' = fun k => k < w1.heap.size := ⟨_, rfl⟩
  rw [← hb'] at HI2 HIL
  clear hb' hn HNM HI1 HOP
  go_loopw [5, 11] (fun v i wr => ∃ (j : Nat) (outs : List NdIn) (s : Nat × List Nat), j ≤ cnt ∧ i = .int .i64 j ∧ outs.length = j ∧ Hid (InHas wr b' g s.1 s.2 ∧ MadeR w1.heap.size wr 33 v outs ∧ Only (fun k => k = g) w1 wr ∧ decLoop cnt [] s0 = decLoop (cnt - j) (outs.map (·.n)) s ∧ ∀ z ∈ outs, WasRead z.n)) (fun _ i _ => cnt - (intOf i).toNat)
  case atStart => exact ⟨0, [], s0, by omega, rfl, rfl, HI2.out, MadeR.begin_ _ _ _, HO2.out, by simp, by simp⟩
  case round =>
    obtain ⟨j, outs, s, hj, rfl, hol, HJ⟩ := hrel
    obtain ⟨wi, hwi⟩ : ∃ w, w = wr := ⟨_, rfl⟩
    subst hwi
    by_cases hjc : j < cnt
    · obtain ⟨⟨n, e8, M8⟩, hg⟩ : ∃ r, getRd s = r := ⟨_, rfl⟩
      have HGT := Lib.hid (get_ok b' g s.1 s.2 wi HJ.out.1)
      rw [show (s.1, s.2) = s from rfl, hg] at HGT
      have HGR := Lib.hid hg
      obtain ⟨bad, hbad⟩ : ∃ bad, bad = !(decide (e8 = 0) && okNext (outs.map (·.n)) n) := ⟨_, rfl⟩
      have HBAD := Lib.hid hbad
      have HOL := Lib.hid hol
      clear hg hbad hol
      go_upto_region 6 with (first
        | (go_at_call 45; go_loud ((with_reducible refine (HGT.out).mono ?_); rintro e5 w5 ⟨A, pc, rfl, H5⟩))
        | ((with_reducible refine gate 6 rfl ?_); go_loud (refine wpList_alloc_row rfl 33 rfl _ (zeroN _) 39 _ (ndC_size _ _ _ _) (ndC_get _ _ _ _) ?_; intro w6 hr6 hx6; have HR6 := Lib.hid hr6; have HX6 := Lib.hid (hx6.q (Q.refl w5)); clear hr6 hx6))
        | ((with_reducible refine gate0 rfl ?_); go_loud (refine wpList_store_all rfl 33 (.tmp 6) (.tmp 14) rfl w5.heap.size rfl _ rfl 39 sizeN _ (nd_agg n A n.ids.length pc) (fun i _ => ndF_one _ _ _ _ i) 33 _ HR6.out ?_; intro w7 hr7 hp7; have HB := Lib.hid hr7; have HQ57 := Lib.hid (hp7.q HX6.out (Nat.le_refl _)); clear hr7 hp7)))
      simp only [Act.put, List.setIfInBounds_toArray, List.set_cons_succ, List.set_cons_zero]
      obtain ⟨N, hN⟩ : ∃ N, N = w5.heap.size := ⟨_, rfl⟩
      rw [← hN] at HB
      rw [← hN]
      have HI7 : Hid (InHas w7 b' g e8 M8) := Lib.hid (H5.out.1.q HQ57.out)
      have HO7 : Hid (Only (fun k => k = g) wi w7) := Lib.hid (H5.out.2.1.step HQ57.out)
      have HM7 := Lib.hid (HJ.out.2.1.keep HO7.out (fun k hk => by have := HG.out.2; omega))
      have HPR := Lib.hid (own_q H5.out.2.2 HQ57.out)
      obtain ⟨pn, hpn⟩ : ∃ pn, pn = n.ids.length := ⟨_, rfl⟩
      rw [← hpn] at HB HPR
      rw [← hpn]
      have HPN := Lib.hid hpn.symm
      have HER : Hid (∀ wx, Below w7.heap.size w7 wx → Calls Try.prog 46 #[.pointer (some ⟨g, 0, none⟩)] wx fun e_ w' => e_ = .returned (.int .i64 (e8 : Int)) ∧ wx = w') := Lib.hid fun wx hq => err_in b' g e8 M8 wx (HI7.out.q hq)
      have HWR : Hid (e8 = 0 → s.1 = 0 ∧ WasRead n) := Lib.hid fun h => by
        have h2 := get_sound HJ.out.1.byte HGR.out h
        exact ⟨h2.1, h2.2.2⟩
      clear hN hpn H5 HR6 HX6 HQ57 HGT
      go_cut [39] (fun u wx => u = .bool bad ∧ Hid (Q w7 wx))
      case first =>
        by_cases he : e8 = 0
        · obtain ⟨hs1, hwr⟩ := HWR.out he
          have HCK0 : Hid (∀ wx, Calls Try.prog 12 #[.agg (ndC n A pn pc)] wx fun e w' => e = .returned (.int .i64 (checkN n : Int)) ∧ Q wx w') := Lib.hid fun wx => check_ok n A pn pc wx ⟨HPN.out, hwr.tree, by have := hwr.many; have := HPN.out; omega, by have := hwr.name; omega, by have := hwr.target; omega⟩
          have HBE0 : Hid (bad = !(okNext (outs.map (·.n)) n)) := Lib.hid (by rw [HBAD.out, he]; simp)
          clear HBAD HWR hs1 hwr
          subst he
          unfold okNext at HBE0
          obtain ⟨ck, hck⟩ : ∃ ck, ck = checkN n := ⟨_, rfl⟩
          rw [← hck] at HCK0 HBE0
          clear hck
          by_cases hc : ck = 0
          · have HBE1 : Hid (bad = !(outs.length == 0 || !leS n.name (lastName (outs.map (·.n))))) := Lib.hid (by rw [HBE0.out, hc]; simp)
            clear HBE0
            subst hc
            have HCK := HCK0
            clear HCK0
            by_cases h0 : j = 0
            · have HBE : Hid (bad = false) := Lib.hid (by rw [HBE1.out, HOL.out, h0]; rfl)
              clear HBE1
              have hlo : outs.length = 0 := by rw [HOL.out, h0]
              obtain ⟨A5, c5, hv5⟩ := own_form HM7.out.own
              rw [hlo] at hv5
              subst hv5
              clear h0 hlo
              go_wp2_with fail
              -- REGfirst
              refine wp_region_factsL (by kernel_rfl) (by kernel_rfl) (factsOf [.is (.pointer (some ⟨g, 0, none⟩)), .is (.int .i64 0), .is (.bool false), .is (.bool false), .is (.agg (ndC n A pn pc)), .is (.int .i64 0), .is (.bool false), .is (.bool false), .is (.bool false), .is (.slice A5 0 c5), .is (.int .i64 0), .is (.bool false), .is (.bool false), .any, .any, .any, .any, .any, .any, .any, .any, .any, .any, .is (.bool false), .is (.bool false)]) (factsOf_stays _) ?_ ?_
              · refine ⟨?_, ?_, ?_, ?_, ?_, ?_, ?_, ?_, ?_, ?_, ?_, ?_, ?_, ?_, ?_, ?_, ?_, ?_, ?_, ?_, ?_, ?_, ?_, ?_, ?_, trivial⟩
                · intro ax wx hq hfr hd
                  have f4 : ax.tmps.getD 4 undef = .pointer (some ⟨g, 0, none⟩) := (hfr 4 (by kernel_rfl)).trans rfl
                  have e4 := (getD_form _ _).symm.trans f4
                  exact .inl ⟨wanted_free rfl, OpDoes.run (v := .pointer (some ⟨g, 0, none⟩)) (w' := wx) (by unfold execOp; simp only [Act.eval, f4, Sem.run_pure]) ⟨Below.refl _ _, rfl⟩⟩
                · intro ax wx hq hfr hd
                  have f15 : ax.tmps.getD 15 undef = .pointer (some ⟨g, 0, none⟩) := hd 0 (by kernel_rfl) _ _ rfl rfl
                  have e15 := (getD_form _ _).symm.trans f15
                  exact .inl ⟨wanted_free rfl, OpDoes.call (f := 46) (args := #[.pointer (some ⟨g, 0, none⟩)]) (w' := wx) (by unfold execOp; simp [go_sem, Act.eval, e15]) ((HER.out wx hq).mono fun e_ w2 h => ⟨_, h.1, by rw [← h.2]; exact Below.refl _ _, rfl⟩)⟩
                · intro ax wx hq hfr hd
                  have f16 : ax.tmps.getD 16 undef = .int .i64 0 := hd 1 (by kernel_rfl) _ _ rfl rfl
                  have e16 := (getD_form _ _).symm.trans f16
                  exact .inl ⟨wanted_free rfl, OpDoes.run (v := .bool false) (w' := wx) (by unfold execOp; simp [go_sem, Act.eval, e16]) ⟨Below.refl _ _, rfl⟩⟩
                · intro ax wx hq hfr hd
                  have f17 : ax.tmps.getD 17 undef = .bool false := hd 2 (by kernel_rfl) _ _ rfl rfl
                  have e17 := (getD_form _ _).symm.trans f17
                  exact .inl ⟨wanted_free rfl, OpDoes.run (v := .bool false) (w' := wx) (by unfold execOp; simp only [Act.eval, f17, Sem.run_pure]) ⟨Below.refl _ _, rfl⟩⟩
                · intro ax wx hq hfr hd
                  have f6 : ax.tmps.getD 6 undef = .pointer (some ⟨N, 0, none⟩) := (hfr 6 (by kernel_rfl)).trans rfl
                  have e6 := (getD_form _ _).symm.trans f6
                  exact .inl ⟨wanted_on rfl rfl rfl (hd 3 (by kernel_rfl) _ _ rfl rfl), OpDoes.run (v := .agg (ndC n A pn pc)) (w' := wx) (load_node (.tmp 6) rfl f6 (NodeAt.of_row (row_q hq HB.out))) ⟨Below.refl _ _, rfl⟩⟩
                · intro ax wx hq hfr hd
                  have f19 : ax.tmps.getD 19 undef = .agg (ndC n A pn pc) := hd 4 (by kernel_rfl) _ _ rfl rfl
                  have e19 := (getD_form _ _).symm.trans f19
                  exact .inl ⟨wanted_on rfl rfl rfl (hd 3 (by kernel_rfl) _ _ rfl rfl), OpDoes.call (f := 12) (args := #[.agg (ndC n A pn pc)]) (w' := wx) (by unfold execOp; simp [go_sem, Act.eval, e19]) ((HCK.out wx).mono fun e_ w2 h => ⟨_, h.1, h.2, rfl⟩)⟩
                · intro ax wx hq hfr hd
                  have f20 : ax.tmps.getD 20 undef = .int .i64 0 := hd 5 (by kernel_rfl) _ _ rfl rfl
                  have e20 := (getD_form _ _).symm.trans f20
                  exact .inl ⟨wanted_on rfl rfl rfl (hd 3 (by kernel_rfl) _ _ rfl rfl), OpDoes.run (v := .bool false) (w' := wx) (by unfold execOp; simp [go_sem, Act.eval, e20]) ⟨Below.refl _ _, rfl⟩⟩
                · intro ax wx hq hfr hd
                  have f18 : ax.tmps.getD 18 undef = .bool false := hd 3 (by kernel_rfl) _ _ rfl rfl
                  have e18 := (getD_form _ _).symm.trans f18
                  have f21 : ax.tmps.getD 21 undef = .bool false := hd 6 (by kernel_rfl) _ _ rfl rfl
                  have e21 := (getD_form _ _).symm.trans f21
                  exact .inl ⟨wanted_free rfl, OpDoes.run (v := .bool false) (w' := wx) (by unfold execOp; simp [go_sem, Act.eval, e18, e21]) ⟨Below.refl _ _, rfl⟩⟩
                · intro ax wx hq hfr hd
                  have f22 : ax.tmps.getD 22 undef = .bool false := hd 7 (by kernel_rfl) _ _ rfl rfl
                  have e22 := (getD_form _ _).symm.trans f22
                  exact .inl ⟨wanted_free rfl, OpDoes.run (v := .bool false) (w' := wx) (by unfold execOp; simp only [Act.eval, f22, Sem.run_pure]) ⟨Below.refl _ _, rfl⟩⟩
                · intro ax wx hq hfr hd
                  have f5 : ax.tmps.getD 5 undef = .slice A5 0 c5 := (hfr 5 (by kernel_rfl)).trans rfl
                  have e5 := (getD_form _ _).symm.trans f5
                  exact .inl ⟨wanted_on rfl rfl rfl (hd 8 (by kernel_rfl) _ _ rfl rfl), OpDoes.run (v := .slice A5 0 c5) (w' := wx) (by unfold execOp; simp only [Act.eval, f5, Sem.run_pure]) ⟨Below.refl _ _, rfl⟩⟩
                · intro ax wx hq hfr hd
                  have f24 : ax.tmps.getD 24 undef = .slice A5 0 c5 := hd 9 (by kernel_rfl) _ _ rfl rfl
                  have e24 := (getD_form _ _).symm.trans f24
                  exact .inl ⟨wanted_on rfl rfl rfl (hd 8 (by kernel_rfl) _ _ rfl rfl), OpDoes.run (v := .int .i64 0) (w' := wx) (by unfold execOp; simp [go_sem, Act.eval, e24]) ⟨Below.refl _ _, rfl⟩⟩
                · intro ax wx hq hfr hd
                  have f25 : ax.tmps.getD 25 undef = .int .i64 0 := hd 10 (by kernel_rfl) _ _ rfl rfl
                  have e25 := (getD_form _ _).symm.trans f25
                  exact .inl ⟨wanted_on rfl rfl rfl (hd 8 (by kernel_rfl) _ _ rfl rfl), OpDoes.run (v := .bool false) (w' := wx) (by unfold execOp; simp [go_sem, Act.eval, e25]) ⟨Below.refl _ _, rfl⟩⟩
                · intro ax wx hq hfr hd
                  have f26 : ax.tmps.getD 26 undef = .bool false := hd 11 (by kernel_rfl) _ _ rfl rfl
                  have e26 := (getD_form _ _).symm.trans f26
                  exact .inl ⟨wanted_on rfl rfl rfl (hd 8 (by kernel_rfl) _ _ rfl rfl), OpDoes.run (v := .bool false) (w' := wx) (by unfold execOp; simp only [Act.eval, f26, Sem.run_pure]) ⟨Below.refl _ _, rfl⟩⟩
                · intro ax wx hq hfr hd
                  have f6 : ax.tmps.getD 6 undef = .pointer (some ⟨N, 0, none⟩) := (hfr 6 (by kernel_rfl)).trans rfl
                  have e6 := (getD_form _ _).symm.trans f6
                  exact .inr ⟨wanted_off (b := false) rfl rfl rfl (hd 12 (by kernel_rfl) _ _ rfl rfl), trivial⟩
                · intro ax wx hq hfr hd
                  exact .inr ⟨wanted_off (b := false) rfl rfl rfl (hd 12 (by kernel_rfl) _ _ rfl rfl), trivial⟩
                · intro ax wx hq hfr hd
                  have f5 : ax.tmps.getD 5 undef = .slice A5 0 c5 := (hfr 5 (by kernel_rfl)).trans rfl
                  have e5 := (getD_form _ _).symm.trans f5
                  exact .inr ⟨wanted_off (b := false) rfl rfl rfl (hd 12 (by kernel_rfl) _ _ rfl rfl), trivial⟩
                · intro ax wx hq hfr hd
                  have f5 : ax.tmps.getD 5 undef = .slice A5 0 c5 := (hfr 5 (by kernel_rfl)).trans rfl
                  have e5 := (getD_form _ _).symm.trans f5
                  exact .inr ⟨wanted_off (b := false) rfl rfl rfl (hd 12 (by kernel_rfl) _ _ rfl rfl), trivial⟩
                · intro ax wx hq hfr hd
                  exact .inr ⟨wanted_off (b := false) rfl rfl rfl (hd 12 (by kernel_rfl) _ _ rfl rfl), trivial⟩
                · intro ax wx hq hfr hd
                  exact .inr ⟨wanted_off (b := false) rfl rfl rfl (hd 12 (by kernel_rfl) _ _ rfl rfl), trivial⟩
                · intro ax wx hq hfr hd
                  exact .inr ⟨wanted_off (b := false) rfl rfl rfl (hd 12 (by kernel_rfl) _ _ rfl rfl), trivial⟩
                · intro ax wx hq hfr hd
                  exact .inr ⟨wanted_off (b := false) rfl rfl rfl (hd 12 (by kernel_rfl) _ _ rfl rfl), trivial⟩
                · intro ax wx hq hfr hd
                  exact .inr ⟨wanted_off (b := false) rfl rfl rfl (hd 12 (by kernel_rfl) _ _ rfl rfl), trivial⟩
                · intro ax wx hq hfr hd
                  exact .inr ⟨wanted_off (b := false) rfl rfl rfl (hd 12 (by kernel_rfl) _ _ rfl rfl), trivial⟩
                · intro ax wx hq hfr hd
                  have f27 : ax.tmps.getD 27 undef = .bool false := hd 12 (by kernel_rfl) _ _ rfl rfl
                  have e27 := (getD_form _ _).symm.trans f27
                  have f27 : ax.tmps.getD 27 undef = .bool false := hd 12 (by kernel_rfl) _ _ rfl rfl
                  have e27 := (getD_form _ _).symm.trans f27
                  exact .inl ⟨wanted_on rfl rfl rfl (hd 8 (by kernel_rfl) _ _ rfl rfl), OpDoes.run (v := .bool false) (w' := wx) (by unfold execOp; simp [go_sem, Act.eval, e27]) ⟨Below.refl _ _, rfl⟩⟩
                · intro ax wx hq hfr hd
                  have f23 : ax.tmps.getD 23 undef = .bool false := hd 8 (by kernel_rfl) _ _ rfl rfl
                  have e23 := (getD_form _ _).symm.trans f23
                  have f38 : ax.tmps.getD 38 undef = .bool false := hd 23 (by kernel_rfl) _ _ rfl rfl
                  have e38 := (getD_form _ _).symm.trans f38
                  exact .inl ⟨wanted_free rfl, OpDoes.run (v := .bool false) (w' := wx) (by unfold execOp; simp [go_sem, Act.eval, e23, e38]) ⟨Below.refl _ _, rfl⟩⟩
              · intro us wx hq hf
                have f39 : us 39 = .bool false := hf 24 _ _ rfl rfl
                have HQX := Lib.hid hq
                clear hf hq
                simp only [fillSlots, List.setIfInBounds_toArray, List.set_cons_succ, List.set_cons_zero, f39]
                clear f39
              -- ENDfirst
                go_wp2_with fail
                go_meet
                exact ⟨by rw [HBE.out], HQX⟩
            · obtain ⟨j, rfl⟩ : ∃ i, j = i + 1 := ⟨j - 1, by omega⟩
              have hlo : j < outs.length := by rw [HOL.out]; omega
              obtain ⟨b5, o5, c5, hv5, hb5, hat5⟩ := HM7.out.at_ j hlo
              rw [HOL.out] at hv5
              subst hv5
              obtain ⟨nl, hnl⟩ : ∃ nl, nl = outs[j].n.name := ⟨_, rfl⟩
              have HNM : Hid (w7.cell? ⟨b5, o5 + j * 39, none⟩ = some (.string nl)) := Lib.hid (by rw [hnl]; exact hat5.name)
              obtain ⟨lb, hlb⟩ : ∃ lb, lb = leS n.name nl := ⟨_, rfl⟩
              have HBE : Hid (bad = lb) := Lib.hid (by
                rw [HBE1.out]
                have e1 : lastName (outs.map (·.n)) = nl := by
                  unfold lastName
                  rw [List.length_map, HOL.out, Nat.add_sub_cancel, hnl]
                  simp [List.getD_eq_getElem?_getD, hlo]
                rw [e1, ← hlb, HOL.out]
                simp)
              have hlb2 : (Op.bytesLess n.name.toList nl.toList || n.name.toList == nl.toList) = lb := hlb.symm
              have HLT := Lib.hid hb5
              clear HBE1 hat5 hb5 hnl hlb
              have hpos : (0 : Int) < (j : Int) + 1 := by omega
              have hj2 : IntKind.i64.wrap (j : Int) = (j : Int) := IntWalk.i64_in _ (by omega)
              have hj3 : (j : Int) < (j : Int) + 1 := by omega
              go_wp2_with fail
              -- REGlast
              refine wp_region_factsL (by kernel_rfl) (by kernel_rfl) (factsOf [.is (.pointer (some ⟨g, 0, none⟩)), .is (.int .i64 0), .is (.bool false), .is (.bool false), .is (.agg (ndC n A pn pc)), .is (.int .i64 0), .is (.bool false), .is (.bool false), .is (.bool false), .is (.slice (some ⟨b5, o5, none⟩) (j + 1) c5), .is (.int .i64 ((j : Int) + 1)), .is (.bool true), .is (.bool true), .is (.pointer (some ⟨N, 0, none⟩)), .is (.string n.name), .is (.slice (some ⟨b5, o5, none⟩) (j + 1) c5), .is (.slice (some ⟨b5, o5, none⟩) (j + 1) c5), .is (.int .i64 ((j : Int) + 1)), .is (.int .i64 (j : Nat)), .is (.pointer (some ⟨b5, o5 + j * 39, none⟩)), .is (.pointer (some ⟨b5, o5 + j * 39, none⟩)), .is (.string nl), .is (.bool lb), .is (.bool lb), .is (.bool lb)]) (factsOf_stays _) ?_ ?_
              · refine ⟨?_, ?_, ?_, ?_, ?_, ?_, ?_, ?_, ?_, ?_, ?_, ?_, ?_, ?_, ?_, ?_, ?_, ?_, ?_, ?_, ?_, ?_, ?_, ?_, ?_, trivial⟩
                · intro ax wx hq hfr hd
                  have f4 : ax.tmps.getD 4 undef = .pointer (some ⟨g, 0, none⟩) := (hfr 4 (by kernel_rfl)).trans rfl
                  have e4 := (getD_form _ _).symm.trans f4
                  exact .inl ⟨wanted_free rfl, OpDoes.run (v := .pointer (some ⟨g, 0, none⟩)) (w' := wx) (by unfold execOp; simp only [Act.eval, f4, Sem.run_pure]) ⟨Below.refl _ _, rfl⟩⟩
                · intro ax wx hq hfr hd
                  have f15 : ax.tmps.getD 15 undef = .pointer (some ⟨g, 0, none⟩) := hd 0 (by kernel_rfl) _ _ rfl rfl
                  have e15 := (getD_form _ _).symm.trans f15
                  exact .inl ⟨wanted_free rfl, OpDoes.call (f := 46) (args := #[.pointer (some ⟨g, 0, none⟩)]) (w' := wx) (by unfold execOp; simp [go_sem, Act.eval, e15]) ((HER.out wx hq).mono fun e_ w2 h => ⟨_, h.1, by rw [← h.2]; exact Below.refl _ _, rfl⟩)⟩
                · intro ax wx hq hfr hd
                  have f16 : ax.tmps.getD 16 undef = .int .i64 0 := hd 1 (by kernel_rfl) _ _ rfl rfl
                  have e16 := (getD_form _ _).symm.trans f16
                  exact .inl ⟨wanted_free rfl, OpDoes.run (v := .bool false) (w' := wx) (by unfold execOp; simp [go_sem, Act.eval, e16]) ⟨Below.refl _ _, rfl⟩⟩
                · intro ax wx hq hfr hd
                  have f17 : ax.tmps.getD 17 undef = .bool false := hd 2 (by kernel_rfl) _ _ rfl rfl
                  have e17 := (getD_form _ _).symm.trans f17
                  exact .inl ⟨wanted_free rfl, OpDoes.run (v := .bool false) (w' := wx) (by unfold execOp; simp only [Act.eval, f17, Sem.run_pure]) ⟨Below.refl _ _, rfl⟩⟩
                · intro ax wx hq hfr hd
                  have f6 : ax.tmps.getD 6 undef = .pointer (some ⟨N, 0, none⟩) := (hfr 6 (by kernel_rfl)).trans rfl
                  have e6 := (getD_form _ _).symm.trans f6
                  exact .inl ⟨wanted_on rfl rfl rfl (hd 3 (by kernel_rfl) _ _ rfl rfl), OpDoes.run (v := .agg (ndC n A pn pc)) (w' := wx) (load_node (.tmp 6) rfl f6 (NodeAt.of_row (row_q hq HB.out))) ⟨Below.refl _ _, rfl⟩⟩
                · intro ax wx hq hfr hd
                  have f19 : ax.tmps.getD 19 undef = .agg (ndC n A pn pc) := hd 4 (by kernel_rfl) _ _ rfl rfl
                  have e19 := (getD_form _ _).symm.trans f19
                  exact .inl ⟨wanted_on rfl rfl rfl (hd 3 (by kernel_rfl) _ _ rfl rfl), OpDoes.call (f := 12) (args := #[.agg (ndC n A pn pc)]) (w' := wx) (by unfold execOp; simp [go_sem, Act.eval, e19]) ((HCK.out wx).mono fun e_ w2 h => ⟨_, h.1, h.2, rfl⟩)⟩
                · intro ax wx hq hfr hd
                  have f20 : ax.tmps.getD 20 undef = .int .i64 0 := hd 5 (by kernel_rfl) _ _ rfl rfl
                  have e20 := (getD_form _ _).symm.trans f20
                  exact .inl ⟨wanted_on rfl rfl rfl (hd 3 (by kernel_rfl) _ _ rfl rfl), OpDoes.run (v := .bool false) (w' := wx) (by unfold execOp; simp [go_sem, Act.eval, e20]) ⟨Below.refl _ _, rfl⟩⟩
                · intro ax wx hq hfr hd
                  have f18 : ax.tmps.getD 18 undef = .bool false := hd 3 (by kernel_rfl) _ _ rfl rfl
                  have e18 := (getD_form _ _).symm.trans f18
                  have f21 : ax.tmps.getD 21 undef = .bool false := hd 6 (by kernel_rfl) _ _ rfl rfl
                  have e21 := (getD_form _ _).symm.trans f21
                  exact .inl ⟨wanted_free rfl, OpDoes.run (v := .bool false) (w' := wx) (by unfold execOp; simp [go_sem, Act.eval, e18, e21]) ⟨Below.refl _ _, rfl⟩⟩
                · intro ax wx hq hfr hd
                  have f22 : ax.tmps.getD 22 undef = .bool false := hd 7 (by kernel_rfl) _ _ rfl rfl
                  have e22 := (getD_form _ _).symm.trans f22
                  exact .inl ⟨wanted_free rfl, OpDoes.run (v := .bool false) (w' := wx) (by unfold execOp; simp only [Act.eval, f22, Sem.run_pure]) ⟨Below.refl _ _, rfl⟩⟩
                · intro ax wx hq hfr hd
                  have f5 : ax.tmps.getD 5 undef = .slice (some ⟨b5, o5, none⟩) (j + 1) c5 := (hfr 5 (by kernel_rfl)).trans rfl
                  have e5 := (getD_form _ _).symm.trans f5
                  exact .inl ⟨wanted_on rfl rfl rfl (hd 8 (by kernel_rfl) _ _ rfl rfl), OpDoes.run (v := .slice (some ⟨b5, o5, none⟩) (j + 1) c5) (w' := wx) (by unfold execOp; simp only [Act.eval, f5, Sem.run_pure]) ⟨Below.refl _ _, rfl⟩⟩
                · intro ax wx hq hfr hd
                  have f24 : ax.tmps.getD 24 undef = .slice (some ⟨b5, o5, none⟩) (j + 1) c5 := hd 9 (by kernel_rfl) _ _ rfl rfl
                  have e24 := (getD_form _ _).symm.trans f24
                  exact .inl ⟨wanted_on rfl rfl rfl (hd 8 (by kernel_rfl) _ _ rfl rfl), OpDoes.run (v := .int .i64 ((j : Int) + 1)) (w' := wx) (by unfold execOp; simp [go_sem, Act.eval, e24]) ⟨Below.refl _ _, rfl⟩⟩
                · intro ax wx hq hfr hd
                  have f25 : ax.tmps.getD 25 undef = .int .i64 ((j : Int) + 1) := hd 10 (by kernel_rfl) _ _ rfl rfl
                  have e25 := (getD_form _ _).symm.trans f25
                  exact .inl ⟨wanted_on rfl rfl rfl (hd 8 (by kernel_rfl) _ _ rfl rfl), OpDoes.run (v := .bool true) (w' := wx) (by unfold execOp; simp [go_sem, Act.eval, e25, hpos]) ⟨Below.refl _ _, rfl⟩⟩
                · intro ax wx hq hfr hd
                  have f26 : ax.tmps.getD 26 undef = .bool true := hd 11 (by kernel_rfl) _ _ rfl rfl
                  have e26 := (getD_form _ _).symm.trans f26
                  exact .inl ⟨wanted_on rfl rfl rfl (hd 8 (by kernel_rfl) _ _ rfl rfl), OpDoes.run (v := .bool true) (w' := wx) (by unfold execOp; simp only [Act.eval, f26, Sem.run_pure]) ⟨Below.refl _ _, rfl⟩⟩
                · intro ax wx hq hfr hd
                  have f6 : ax.tmps.getD 6 undef = .pointer (some ⟨N, 0, none⟩) := (hfr 6 (by kernel_rfl)).trans rfl
                  have e6 := (getD_form _ _).symm.trans f6
                  exact .inl ⟨wanted_on rfl rfl rfl (hd 12 (by kernel_rfl) _ _ rfl rfl), OpDoes.run (v := .pointer (some ⟨N, 0, none⟩)) (w' := wx) (by unfold execOp; simp [go_sem, Act.eval, e6]) ⟨Below.refl _ _, rfl⟩⟩
                · intro ax wx hq hfr hd
                  have f28 : ax.tmps.getD 28 undef = .pointer (some ⟨N, 0, none⟩) := hd 13 (by kernel_rfl) _ _ rfl rfl
                  have e28 := (getD_form _ _).symm.trans f28
                  have hc := (NodeAt.of_row (row_q hq HB.out)).name
                  exact .inl ⟨wanted_on rfl rfl rfl (hd 12 (by kernel_rfl) _ _ rfl rfl), OpDoes.run (v := .string n.name) (w' := wx) (by unfold execOp; simp [go_sem, Act.eval, e28, hc]) ⟨Below.refl _ _, rfl⟩⟩
                · intro ax wx hq hfr hd
                  have f5 : ax.tmps.getD 5 undef = .slice (some ⟨b5, o5, none⟩) (j + 1) c5 := (hfr 5 (by kernel_rfl)).trans rfl
                  have e5 := (getD_form _ _).symm.trans f5
                  exact .inl ⟨wanted_on rfl rfl rfl (hd 12 (by kernel_rfl) _ _ rfl rfl), OpDoes.run (v := .slice (some ⟨b5, o5, none⟩) (j + 1) c5) (w' := wx) (by unfold execOp; simp only [Act.eval, f5, Sem.run_pure]) ⟨Below.refl _ _, rfl⟩⟩
                · intro ax wx hq hfr hd
                  have f5 : ax.tmps.getD 5 undef = .slice (some ⟨b5, o5, none⟩) (j + 1) c5 := (hfr 5 (by kernel_rfl)).trans rfl
                  have e5 := (getD_form _ _).symm.trans f5
                  exact .inl ⟨wanted_on rfl rfl rfl (hd 12 (by kernel_rfl) _ _ rfl rfl), OpDoes.run (v := .slice (some ⟨b5, o5, none⟩) (j + 1) c5) (w' := wx) (by unfold execOp; simp only [Act.eval, f5, Sem.run_pure]) ⟨Below.refl _ _, rfl⟩⟩
                · intro ax wx hq hfr hd
                  have f31 : ax.tmps.getD 31 undef = .slice (some ⟨b5, o5, none⟩) (j + 1) c5 := hd 16 (by kernel_rfl) _ _ rfl rfl
                  have e31 := (getD_form _ _).symm.trans f31
                  exact .inl ⟨wanted_on rfl rfl rfl (hd 12 (by kernel_rfl) _ _ rfl rfl), OpDoes.run (v := .int .i64 ((j : Int) + 1)) (w' := wx) (by unfold execOp; simp [go_sem, Act.eval, e31]) ⟨Below.refl _ _, rfl⟩⟩
                · intro ax wx hq hfr hd
                  have f32 : ax.tmps.getD 32 undef = .int .i64 ((j : Int) + 1) := hd 17 (by kernel_rfl) _ _ rfl rfl
                  have e32 := (getD_form _ _).symm.trans f32
                  exact .inl ⟨wanted_on rfl rfl rfl (hd 12 (by kernel_rfl) _ _ rfl rfl), OpDoes.run (v := .int .i64 (j : Nat)) (w' := wx) (by unfold execOp; simp [go_sem, Act.eval, e32, hj2]) ⟨Below.refl _ _, rfl⟩⟩
                · intro ax wx hq hfr hd
                  have f30 : ax.tmps.getD 30 undef = .slice (some ⟨b5, o5, none⟩) (j + 1) c5 := hd 15 (by kernel_rfl) _ _ rfl rfl
                  have e30 := (getD_form _ _).symm.trans f30
                  have f33 : ax.tmps.getD 33 undef = .int .i64 (j : Nat) := hd 18 (by kernel_rfl) _ _ rfl rfl
                  have e33 := (getD_form _ _).symm.trans f33
                  exact .inl ⟨wanted_on rfl rfl rfl (hd 12 (by kernel_rfl) _ _ rfl rfl), OpDoes.run (v := .pointer (some ⟨b5, o5 + j * 39, none⟩)) (w' := wx) (by unfold execOp; simp [go_sem, Act.eval, e30, e33, add_addr, hj3]) ⟨Below.refl _ _, rfl⟩⟩
                · intro ax wx hq hfr hd
                  have f34 : ax.tmps.getD 34 undef = .pointer (some ⟨b5, o5 + j * 39, none⟩) := hd 19 (by kernel_rfl) _ _ rfl rfl
                  have e34 := (getD_form _ _).symm.trans f34
                  exact .inl ⟨wanted_on rfl rfl rfl (hd 12 (by kernel_rfl) _ _ rfl rfl), OpDoes.run (v := .pointer (some ⟨b5, o5 + j * 39, none⟩)) (w' := wx) (by unfold execOp; simp [go_sem, Act.eval, e34, add_addr]) ⟨Below.refl _ _, rfl⟩⟩
                · intro ax wx hq hfr hd
                  have f35 : ax.tmps.getD 35 undef = .pointer (some ⟨b5, o5 + j * 39, none⟩) := hd 20 (by kernel_rfl) _ _ rfl rfl
                  have e35 := (getD_form _ _).symm.trans f35
                  have hc := (hq.cell (p := ⟨b5, o5 + j * 39, none⟩) HLT.out).trans HNM.out
                  exact .inl ⟨wanted_on rfl rfl rfl (hd 12 (by kernel_rfl) _ _ rfl rfl), OpDoes.run (v := .string nl) (w' := wx) (by unfold execOp; simp [go_sem, Act.eval, e35, hc]) ⟨Below.refl _ _, rfl⟩⟩
                · intro ax wx hq hfr hd
                  have f29 : ax.tmps.getD 29 undef = .string n.name := hd 14 (by kernel_rfl) _ _ rfl rfl
                  have e29 := (getD_form _ _).symm.trans f29
                  have f36 : ax.tmps.getD 36 undef = .string nl := hd 21 (by kernel_rfl) _ _ rfl rfl
                  have e36 := (getD_form _ _).symm.trans f36
                  exact .inl ⟨wanted_on rfl rfl rfl (hd 12 (by kernel_rfl) _ _ rfl rfl), OpDoes.run (v := .bool lb) (w' := wx) (by unfold execOp; simp [go_sem, Act.eval, e29, e36, hlb2]) ⟨Below.refl _ _, rfl⟩⟩
                · intro ax wx hq hfr hd
                  have f27 : ax.tmps.getD 27 undef = .bool true := hd 12 (by kernel_rfl) _ _ rfl rfl
                  have e27 := (getD_form _ _).symm.trans f27
                  have f37 : ax.tmps.getD 37 undef = .bool lb := hd 22 (by kernel_rfl) _ _ rfl rfl
                  have e37 := (getD_form _ _).symm.trans f37
                  exact .inl ⟨wanted_on rfl rfl rfl (hd 8 (by kernel_rfl) _ _ rfl rfl), OpDoes.run (v := .bool lb) (w' := wx) (by unfold execOp; simp [go_sem, Act.eval, e27, e37]) ⟨Below.refl _ _, rfl⟩⟩
                · intro ax wx hq hfr hd
                  have f23 : ax.tmps.getD 23 undef = .bool false := hd 8 (by kernel_rfl) _ _ rfl rfl
                  have e23 := (getD_form _ _).symm.trans f23
                  have f38 : ax.tmps.getD 38 undef = .bool lb := hd 23 (by kernel_rfl) _ _ rfl rfl
                  have e38 := (getD_form _ _).symm.trans f38
                  exact .inl ⟨wanted_free rfl, OpDoes.run (v := .bool lb) (w' := wx) (by unfold execOp; simp [go_sem, Act.eval, e23, e38]) ⟨Below.refl _ _, rfl⟩⟩
              · intro us wx hq hf
                have f39 : us 39 = .bool lb := hf 24 _ _ rfl rfl
                have HQX := Lib.hid hq
                clear hf hq
                simp only [fillSlots, List.setIfInBounds_toArray, List.set_cons_succ, List.set_cons_zero, f39]
                clear f39
              -- ENDlast
                go_wp2_with fail
                go_meet
                exact ⟨by rw [HBE.out], HQX⟩
          · have HBE : Hid (bad = true) := Lib.hid (by rw [HBE0.out]; simp [hc])
            have HCK := HCK0
            have hne : ¬ ((ck : Int) = 0) := by omega
            have hne2 : ¬ ck = 0 := hc
            clear HBE0 HCK0
            go_wp2_with fail
            -- REGchk
            refine wp_region_factsL (by kernel_rfl) (by kernel_rfl) (factsOf [.is (.pointer (some ⟨g, 0, none⟩)), .is (.int .i64 0), .is (.bool false), .is (.bool false), .is (.agg (ndC n A pn pc)), .is (.int .i64 (ck : Int)), .is (.bool true), .is (.bool true), .is (.bool true), .any, .any, .any, .is (undef), .any, .any, .any, .any, .any, .any, .any, .any, .any, .any, .any, .is (.bool true)]) (factsOf_stays _) ?_ ?_
            · refine ⟨?_, ?_, ?_, ?_, ?_, ?_, ?_, ?_, ?_, ?_, ?_, ?_, ?_, ?_, ?_, ?_, ?_, ?_, ?_, ?_, ?_, ?_, ?_, ?_, ?_, trivial⟩
              · intro ax wx hq hfr hd
                have f4 : ax.tmps.getD 4 undef = .pointer (some ⟨g, 0, none⟩) := (hfr 4 (by kernel_rfl)).trans rfl
                have e4 := (getD_form _ _).symm.trans f4
                exact .inl ⟨wanted_free rfl, OpDoes.run (v := .pointer (some ⟨g, 0, none⟩)) (w' := wx) (by unfold execOp; simp only [Act.eval, f4, Sem.run_pure]) ⟨Below.refl _ _, rfl⟩⟩
              · intro ax wx hq hfr hd
                have f15 : ax.tmps.getD 15 undef = .pointer (some ⟨g, 0, none⟩) := hd 0 (by kernel_rfl) _ _ rfl rfl
                have e15 := (getD_form _ _).symm.trans f15
                exact .inl ⟨wanted_free rfl, OpDoes.call (f := 46) (args := #[.pointer (some ⟨g, 0, none⟩)]) (w' := wx) (by unfold execOp; simp [go_sem, Act.eval, e15]) ((HER.out wx hq).mono fun e_ w2 h => ⟨_, h.1, by rw [← h.2]; exact Below.refl _ _, rfl⟩)⟩
              · intro ax wx hq hfr hd
                have f16 : ax.tmps.getD 16 undef = .int .i64 0 := hd 1 (by kernel_rfl) _ _ rfl rfl
                have e16 := (getD_form _ _).symm.trans f16
                exact .inl ⟨wanted_free rfl, OpDoes.run (v := .bool false) (w' := wx) (by unfold execOp; simp [go_sem, Act.eval, e16]) ⟨Below.refl _ _, rfl⟩⟩
              · intro ax wx hq hfr hd
                have f17 : ax.tmps.getD 17 undef = .bool false := hd 2 (by kernel_rfl) _ _ rfl rfl
                have e17 := (getD_form _ _).symm.trans f17
                exact .inl ⟨wanted_free rfl, OpDoes.run (v := .bool false) (w' := wx) (by unfold execOp; simp only [Act.eval, f17, Sem.run_pure]) ⟨Below.refl _ _, rfl⟩⟩
              · intro ax wx hq hfr hd
                have f6 : ax.tmps.getD 6 undef = .pointer (some ⟨N, 0, none⟩) := (hfr 6 (by kernel_rfl)).trans rfl
                have e6 := (getD_form _ _).symm.trans f6
                exact .inl ⟨wanted_on rfl rfl rfl (hd 3 (by kernel_rfl) _ _ rfl rfl), OpDoes.run (v := .agg (ndC n A pn pc)) (w' := wx) (load_node (.tmp 6) rfl f6 (NodeAt.of_row (row_q hq HB.out))) ⟨Below.refl _ _, rfl⟩⟩
              · intro ax wx hq hfr hd
                have f19 : ax.tmps.getD 19 undef = .agg (ndC n A pn pc) := hd 4 (by kernel_rfl) _ _ rfl rfl
                have e19 := (getD_form _ _).symm.trans f19
                exact .inl ⟨wanted_on rfl rfl rfl (hd 3 (by kernel_rfl) _ _ rfl rfl), OpDoes.call (f := 12) (args := #[.agg (ndC n A pn pc)]) (w' := wx) (by unfold execOp; simp [go_sem, Act.eval, e19]) ((HCK.out wx).mono fun e_ w2 h => ⟨_, h.1, h.2, rfl⟩)⟩
              · intro ax wx hq hfr hd
                have f20 : ax.tmps.getD 20 undef = .int .i64 (ck : Int) := hd 5 (by kernel_rfl) _ _ rfl rfl
                have e20 := (getD_form _ _).symm.trans f20
                exact .inl ⟨wanted_on rfl rfl rfl (hd 3 (by kernel_rfl) _ _ rfl rfl), OpDoes.run (v := .bool true) (w' := wx) (by unfold execOp; simp [go_sem, Act.eval, e20, hne, hne2]) ⟨Below.refl _ _, rfl⟩⟩
              · intro ax wx hq hfr hd
                have f18 : ax.tmps.getD 18 undef = .bool false := hd 3 (by kernel_rfl) _ _ rfl rfl
                have e18 := (getD_form _ _).symm.trans f18
                have f21 : ax.tmps.getD 21 undef = .bool true := hd 6 (by kernel_rfl) _ _ rfl rfl
                have e21 := (getD_form _ _).symm.trans f21
                exact .inl ⟨wanted_free rfl, OpDoes.run (v := .bool true) (w' := wx) (by unfold execOp; simp [go_sem, Act.eval, e18, e21]) ⟨Below.refl _ _, rfl⟩⟩
              · intro ax wx hq hfr hd
                have f22 : ax.tmps.getD 22 undef = .bool true := hd 7 (by kernel_rfl) _ _ rfl rfl
                have e22 := (getD_form _ _).symm.trans f22
                exact .inl ⟨wanted_free rfl, OpDoes.run (v := .bool true) (w' := wx) (by unfold execOp; simp only [Act.eval, f22, Sem.run_pure]) ⟨Below.refl _ _, rfl⟩⟩
              · intro ax wx hq hfr hd
                have f5 : ax.tmps.getD 5 undef = u5 := (hfr 5 (by kernel_rfl)).trans rfl
                have e5 := (getD_form _ _).symm.trans f5
                exact .inr ⟨wanted_off (b := true) rfl rfl rfl (hd 8 (by kernel_rfl) _ _ rfl rfl), trivial⟩
              · intro ax wx hq hfr hd
                exact .inr ⟨wanted_off (b := true) rfl rfl rfl (hd 8 (by kernel_rfl) _ _ rfl rfl), trivial⟩
              · intro ax wx hq hfr hd
                exact .inr ⟨wanted_off (b := true) rfl rfl rfl (hd 8 (by kernel_rfl) _ _ rfl rfl), trivial⟩
              · intro ax wx hq hfr hd
                exact .inr ⟨wanted_off (b := true) rfl rfl rfl (hd 8 (by kernel_rfl) _ _ rfl rfl), rfl⟩
              · intro ax wx hq hfr hd
                have f6 : ax.tmps.getD 6 undef = .pointer (some ⟨N, 0, none⟩) := (hfr 6 (by kernel_rfl)).trans rfl
                have e6 := (getD_form _ _).symm.trans f6
                exact .inr ⟨wanted_undef rfl rfl rfl (hd 12 (by kernel_rfl) _ _ rfl rfl), trivial⟩
              · intro ax wx hq hfr hd
                exact .inr ⟨wanted_undef rfl rfl rfl (hd 12 (by kernel_rfl) _ _ rfl rfl), trivial⟩
              · intro ax wx hq hfr hd
                have f5 : ax.tmps.getD 5 undef = u5 := (hfr 5 (by kernel_rfl)).trans rfl
                have e5 := (getD_form _ _).symm.trans f5
                exact .inr ⟨wanted_undef rfl rfl rfl (hd 12 (by kernel_rfl) _ _ rfl rfl), trivial⟩
              · intro ax wx hq hfr hd
                have f5 : ax.tmps.getD 5 undef = u5 := (hfr 5 (by kernel_rfl)).trans rfl
                have e5 := (getD_form _ _).symm.trans f5
                exact .inr ⟨wanted_undef rfl rfl rfl (hd 12 (by kernel_rfl) _ _ rfl rfl), trivial⟩
              · intro ax wx hq hfr hd
                exact .inr ⟨wanted_undef rfl rfl rfl (hd 12 (by kernel_rfl) _ _ rfl rfl), trivial⟩
              · intro ax wx hq hfr hd
                exact .inr ⟨wanted_undef rfl rfl rfl (hd 12 (by kernel_rfl) _ _ rfl rfl), trivial⟩
              · intro ax wx hq hfr hd
                exact .inr ⟨wanted_undef rfl rfl rfl (hd 12 (by kernel_rfl) _ _ rfl rfl), trivial⟩
              · intro ax wx hq hfr hd
                exact .inr ⟨wanted_undef rfl rfl rfl (hd 12 (by kernel_rfl) _ _ rfl rfl), trivial⟩
              · intro ax wx hq hfr hd
                exact .inr ⟨wanted_undef rfl rfl rfl (hd 12 (by kernel_rfl) _ _ rfl rfl), trivial⟩
              · intro ax wx hq hfr hd
                exact .inr ⟨wanted_undef rfl rfl rfl (hd 12 (by kernel_rfl) _ _ rfl rfl), trivial⟩
              · intro ax wx hq hfr hd
                have f27 : ax.tmps.getD 27 undef = undef := hd 12 (by kernel_rfl) _ _ rfl rfl
                have e27 := (getD_form _ _).symm.trans f27
                exact .inr ⟨wanted_off (b := true) rfl rfl rfl (hd 8 (by kernel_rfl) _ _ rfl rfl), trivial⟩
              · intro ax wx hq hfr hd
                have f23 : ax.tmps.getD 23 undef = .bool true := hd 8 (by kernel_rfl) _ _ rfl rfl
                have e23 := (getD_form _ _).symm.trans f23
                have f23 : ax.tmps.getD 23 undef = .bool true := hd 8 (by kernel_rfl) _ _ rfl rfl
                have e23 := (getD_form _ _).symm.trans f23
                exact .inl ⟨wanted_free rfl, OpDoes.run (v := .bool true) (w' := wx) (by unfold execOp; simp [go_sem, Act.eval, e23]) ⟨Below.refl _ _, rfl⟩⟩
            · intro us wx hq hf
              have f39 : us 39 = .bool true := hf 24 _ _ rfl rfl
              have HQX := Lib.hid hq
              clear hf hq
              simp only [fillSlots, List.setIfInBounds_toArray, List.set_cons_succ, List.set_cons_zero, f39]
              clear f39
            -- ENDchk
              go_wp2_with fail
              go_meet
              exact ⟨by rw [HBE.out], HQX⟩
        · have HBE : Hid (bad = true) := Lib.hid (by rw [HBAD.out]; simp [he])
          have hne : ¬ ((e8 : Int) = 0) := by omega
          have hne2 : ¬ e8 = 0 := he
          clear HBAD HWR
          go_wp2_with fail
          -- REGerr
          refine wp_region_factsL (by kernel_rfl) (by kernel_rfl) (factsOf [.is (.pointer (some ⟨g, 0, none⟩)), .is (.int .i64 (e8 : Int)), .is (.bool true), .is (.bool true), .any, .any, .any, .is (.bool true), .is (.bool true), .any, .any, .any, .is (undef), .any, .any, .any, .any, .any, .any, .any, .any, .any, .any, .any, .is (.bool true)]) (factsOf_stays _) ?_ ?_
          · refine ⟨?_, ?_, ?_, ?_, ?_, ?_, ?_, ?_, ?_, ?_, ?_, ?_, ?_, ?_, ?_, ?_, ?_, ?_, ?_, ?_, ?_, ?_, ?_, ?_, ?_, trivial⟩
            · intro ax wx hq hfr hd
              have f4 : ax.tmps.getD 4 undef = .pointer (some ⟨g, 0, none⟩) := (hfr 4 (by kernel_rfl)).trans rfl
              have e4 := (getD_form _ _).symm.trans f4
              exact .inl ⟨wanted_free rfl, OpDoes.run (v := .pointer (some ⟨g, 0, none⟩)) (w' := wx) (by unfold execOp; simp only [Act.eval, f4, Sem.run_pure]) ⟨Below.refl _ _, rfl⟩⟩
            · intro ax wx hq hfr hd
              have f15 : ax.tmps.getD 15 undef = .pointer (some ⟨g, 0, none⟩) := hd 0 (by kernel_rfl) _ _ rfl rfl
              have e15 := (getD_form _ _).symm.trans f15
              exact .inl ⟨wanted_free rfl, OpDoes.call (f := 46) (args := #[.pointer (some ⟨g, 0, none⟩)]) (w' := wx) (by unfold execOp; simp [go_sem, Act.eval, e15]) ((HER.out wx hq).mono fun e_ w2 h => ⟨_, h.1, by rw [← h.2]; exact Below.refl _ _, rfl⟩)⟩
            · intro ax wx hq hfr hd
              have f16 : ax.tmps.getD 16 undef = .int .i64 (e8 : Int) := hd 1 (by kernel_rfl) _ _ rfl rfl
              have e16 := (getD_form _ _).symm.trans f16
              exact .inl ⟨wanted_free rfl, OpDoes.run (v := .bool true) (w' := wx) (by unfold execOp; simp [go_sem, Act.eval, e16, hne, hne2]) ⟨Below.refl _ _, rfl⟩⟩
            · intro ax wx hq hfr hd
              have f17 : ax.tmps.getD 17 undef = .bool true := hd 2 (by kernel_rfl) _ _ rfl rfl
              have e17 := (getD_form _ _).symm.trans f17
              exact .inl ⟨wanted_free rfl, OpDoes.run (v := .bool true) (w' := wx) (by unfold execOp; simp only [Act.eval, f17, Sem.run_pure]) ⟨Below.refl _ _, rfl⟩⟩
            · intro ax wx hq hfr hd
              have f6 : ax.tmps.getD 6 undef = .pointer (some ⟨N, 0, none⟩) := (hfr 6 (by kernel_rfl)).trans rfl
              have e6 := (getD_form _ _).symm.trans f6
              exact .inr ⟨wanted_off (b := true) rfl rfl rfl (hd 3 (by kernel_rfl) _ _ rfl rfl), trivial⟩
            · intro ax wx hq hfr hd
              exact .inr ⟨wanted_off (b := true) rfl rfl rfl (hd 3 (by kernel_rfl) _ _ rfl rfl), trivial⟩
            · intro ax wx hq hfr hd
              exact .inr ⟨wanted_off (b := true) rfl rfl rfl (hd 3 (by kernel_rfl) _ _ rfl rfl), trivial⟩
            · intro ax wx hq hfr hd
              have f18 : ax.tmps.getD 18 undef = .bool true := hd 3 (by kernel_rfl) _ _ rfl rfl
              have e18 := (getD_form _ _).symm.trans f18
              have f18 : ax.tmps.getD 18 undef = .bool true := hd 3 (by kernel_rfl) _ _ rfl rfl
              have e18 := (getD_form _ _).symm.trans f18
              exact .inl ⟨wanted_free rfl, OpDoes.run (v := .bool true) (w' := wx) (by unfold execOp; simp [go_sem, Act.eval, e18]) ⟨Below.refl _ _, rfl⟩⟩
            · intro ax wx hq hfr hd
              have f22 : ax.tmps.getD 22 undef = .bool true := hd 7 (by kernel_rfl) _ _ rfl rfl
              have e22 := (getD_form _ _).symm.trans f22
              exact .inl ⟨wanted_free rfl, OpDoes.run (v := .bool true) (w' := wx) (by unfold execOp; simp only [Act.eval, f22, Sem.run_pure]) ⟨Below.refl _ _, rfl⟩⟩
            · intro ax wx hq hfr hd
              have f5 : ax.tmps.getD 5 undef = u5 := (hfr 5 (by kernel_rfl)).trans rfl
              have e5 := (getD_form _ _).symm.trans f5
              exact .inr ⟨wanted_off (b := true) rfl rfl rfl (hd 8 (by kernel_rfl) _ _ rfl rfl), trivial⟩
            · intro ax wx hq hfr hd
              exact .inr ⟨wanted_off (b := true) rfl rfl rfl (hd 8 (by kernel_rfl) _ _ rfl rfl), trivial⟩
            · intro ax wx hq hfr hd
              exact .inr ⟨wanted_off (b := true) rfl rfl rfl (hd 8 (by kernel_rfl) _ _ rfl rfl), trivial⟩
            · intro ax wx hq hfr hd
              exact .inr ⟨wanted_off (b := true) rfl rfl rfl (hd 8 (by kernel_rfl) _ _ rfl rfl), rfl⟩
            · intro ax wx hq hfr hd
              have f6 : ax.tmps.getD 6 undef = .pointer (some ⟨N, 0, none⟩) := (hfr 6 (by kernel_rfl)).trans rfl
              have e6 := (getD_form _ _).symm.trans f6
              exact .inr ⟨wanted_undef rfl rfl rfl (hd 12 (by kernel_rfl) _ _ rfl rfl), trivial⟩
            · intro ax wx hq hfr hd
              exact .inr ⟨wanted_undef rfl rfl rfl (hd 12 (by kernel_rfl) _ _ rfl rfl), trivial⟩
            · intro ax wx hq hfr hd
              have f5 : ax.tmps.getD 5 undef = u5 := (hfr 5 (by kernel_rfl)).trans rfl
              have e5 := (getD_form _ _).symm.trans f5
              exact .inr ⟨wanted_undef rfl rfl rfl (hd 12 (by kernel_rfl) _ _ rfl rfl), trivial⟩
            · intro ax wx hq hfr hd
              have f5 : ax.tmps.getD 5 undef = u5 := (hfr 5 (by kernel_rfl)).trans rfl
              have e5 := (getD_form _ _).symm.trans f5
              exact .inr ⟨wanted_undef rfl rfl rfl (hd 12 (by kernel_rfl) _ _ rfl rfl), trivial⟩
            · intro ax wx hq hfr hd
              exact .inr ⟨wanted_undef rfl rfl rfl (hd 12 (by kernel_rfl) _ _ rfl rfl), trivial⟩
            · intro ax wx hq hfr hd
              exact .inr ⟨wanted_undef rfl rfl rfl (hd 12 (by kernel_rfl) _ _ rfl rfl), trivial⟩
            · intro ax wx hq hfr hd
              exact .inr ⟨wanted_undef rfl rfl rfl (hd 12 (by kernel_rfl) _ _ rfl rfl), trivial⟩
            · intro ax wx hq hfr hd
              exact .inr ⟨wanted_undef rfl rfl rfl (hd 12 (by kernel_rfl) _ _ rfl rfl), trivial⟩
            · intro ax wx hq hfr hd
              exact .inr ⟨wanted_undef rfl rfl rfl (hd 12 (by kernel_rfl) _ _ rfl rfl), trivial⟩
            · intro ax wx hq hfr hd
              exact .inr ⟨wanted_undef rfl rfl rfl (hd 12 (by kernel_rfl) _ _ rfl rfl), trivial⟩
            · intro ax wx hq hfr hd
              have f27 : ax.tmps.getD 27 undef = undef := hd 12 (by kernel_rfl) _ _ rfl rfl
              have e27 := (getD_form _ _).symm.trans f27
              exact .inr ⟨wanted_off (b := true) rfl rfl rfl (hd 8 (by kernel_rfl) _ _ rfl rfl), trivial⟩
            · intro ax wx hq hfr hd
              have f23 : ax.tmps.getD 23 undef = .bool true := hd 8 (by kernel_rfl) _ _ rfl rfl
              have e23 := (getD_form _ _).symm.trans f23
              have f23 : ax.tmps.getD 23 undef = .bool true := hd 8 (by kernel_rfl) _ _ rfl rfl
              have e23 := (getD_form _ _).symm.trans f23
              exact .inl ⟨wanted_free rfl, OpDoes.run (v := .bool true) (w' := wx) (by unfold execOp; simp [go_sem, Act.eval, e23]) ⟨Below.refl _ _, rfl⟩⟩
          · intro us wx hq hf
            have f39 : us 39 = .bool true := hf 24 _ _ rfl rfl
            have HQX := Lib.hid hq
            clear hf hq
            simp only [fillSlots, List.setIfInBounds_toArray, List.set_cons_succ, List.set_cons_zero, f39]
            clear f39
          -- ENDerr
            go_wp2_with fail
            go_meet
            exact ⟨by rw [HBE.out], HQX⟩
      case rest =>
      obtain ⟨rfl, HQc⟩ := hcut
      have HOc : Hid (Only (fun k => k = g) w1 wc) := Lib.hid ((HJ.out.2.2.1.trans HO7.out).step HQc.out)
      have HST : Hid (decLoop (cnt - j) (outs.map (·.n)) s = if bad = true then none else decLoop (cnt - (j + 1)) (outs.map (·.n) ++ [n]) (e8, M8)) := Lib.hid (by
        rw [show cnt - j = (cnt - (j + 1)) + 1 by omega, decLoop, HGR.out, HBAD.out]
        simp only
        by_cases h1 : e8 = 0
        · by_cases h2 : okNext (outs.map (·.n)) n = true
          · rw [if_pos ⟨h1, h2⟩, h2, decide_eq_true h1]; rfl
          · rw [if_neg (fun h => h2 h.2)]
            have h3 : okNext (outs.map (·.n)) n = false := by simpa using h2
            rw [h3]; simp
        · rw [if_neg (fun h => h1 h.1), decide_eq_false h1]; rfl)
      have HE0 : Hid (bad = false → e8 = 0) := Lib.hid fun hb => by
        have h2 := HBAD.out
        rw [hb] at h2
        by_cases h1 : e8 = 0
        · exact h1
        · rw [decide_eq_false h1] at h2; cases h2
      cases bad
      · have HST2 : Hid (decLoop (cnt - j) (outs.map (·.n)) s = decLoop (cnt - (j + 1)) (outs.map (·.n) ++ [n]) (e8, M8)) := Lib.hid (by rw [HST.out]; rfl)
        have HWN := Lib.hid (HWR.out (HE0.out rfl)).2
        have HNA := Lib.hid (NodeAt.of_row (row_q HQc.out HB.out))
        have HMc := Lib.hid (HM7.out.q HQc.out)
        have HPc := Lib.hid (own_q HPR.out HQc.out)
        have HIc : Hid (InHas wc b' g e8 M8) := Lib.hid (HI7.out.q HQc.out)
        have HOi : Hid (Only (fun k => k = g) wi wc) := Lib.hid (HO7.out.step HQc.out)
        have HSZ : Hid (w1.heap.size ≤ wi.heap.size ∧ w1.heap.size ≤ wc.heap.size) := Lib.hid ⟨HJ.out.2.2.1.size, HOc.out.size⟩
        have HOLJ : Hid (outs.length ≤ 2000) := Lib.hid (by rw [HOL.out]; omega)
        clear HST HE0 HWR HBAD HER HB
        go_wp2_with (first
          | ((with_reducible refine gate 41 rfl ?_); go_loud (refine wpList_val rfl (load_node (.tmp 6) rfl rfl HNA.out) ?_))
          | ((with_reducible refine gate 42 rfl ?_); go_loud (refine wpList_val rfl (run_row_node (.tmp 41) rfl n A pn pc rfl _) ?_))
          | ((with_reducible refine gate 43 rfl ?_); go_loud (refine wpList_append_agg rfl (.tmp 40) (.tmp 42) 27 rfl w1.heap.size 33 iN _ 39 120 Try.underlying27 hiN hzN0 hzN1 hzN2 rfl (by omega) _ outs.length (ndsL outs) rfl HMc.out.own (ndL n A pn pc) _ _ rfl rfl (ndL_len _ _ _ _) (ndL_one _ _ _ _) (by have := HOLJ.out; unfold maxLen; omega) (by have := HOLJ.out; omega) HSZ.out.2 ?_; intro v9 w9 hown9 hgr9 _; have HV9 := Lib.hid (And.intro hown9 hgr9); clear hown9 hgr9)))
        go_roundw
        case rel =>
          have hgr := HV9.out.2
          have hob := own_block HMc.out.own
          have ho9 : Only (fun k => (u5 : Value).ownBlock = some k) wc w9 := ⟨hgr.os, hgr.tape, hgr.output, hgr.size, fun k hk hs => hgr.block k hk hs⟩
          refine ⟨j + 1, outs ++ [⟨n, A, pn, pc⟩], (e8, M8), by omega, by go_num, by rw [List.length_append, HOL.out]; rfl, HIL.out.keep (s := (e8, M8)) HIc.out ho9 (fun k hk => hob k hk), ?_, HOc.out.through ho9 (fun k hk => .inr (hob k hk)), ?_, fun z hz => ?_⟩
          · exact HJ.out.2.1.push (z := ⟨n, A, pn, pc⟩) HSZ.out.1 HOi.out HG.out.2 HPN.out.symm HPc.out hgr HV9.out.1
          · rw [HJ.out.2.2.2.1, HST2.out, List.map_append]; rfl
          · rcases List.mem_append.1 hz with hz | hz
            · exact HJ.out.2.2.2.2 z hz
            · rw [List.mem_singleton.1 hz]; exact HWN.out
        case measure => simp [intOf]; omega
      · have HRN : Hid (r = ([], 2)) := Lib.hid (by
          rw [← HR.out, HJ.out.2.2.2.1, HST.out]; rfl)
        go_wp2_with fail
        go_ret2
        rw [HRN.out]
        exact decOut_none (HOc.out.q HQ1.out (fun k hk => by rw [hk]; exact HG.out.1))
    · obtain rfl : j = cnt := by omega
      have HEN := Lib.hid (end_in b' g s.1 s.2 wi HJ.out.1)
      have HDL : Hid (decLoop j [] s0 = some (outs.map (·.n), s)) := Lib.hid (by rw [HJ.out.2.2.2.1, Nat.sub_self]; rfl)
      rw [show (s.1, s.2) = s from rfl] at HEN
      have HRE : Hid ((if (endRd s).1 = 0 then (outs.map (·.n), 0) else ([], 2)) = r) := Lib.hid (by rw [← HR.out, HDL.out])
      obtain ⟨t8, ht8⟩ : ∃ t, endRd s = t := ⟨_, rfl⟩
      rw [ht8] at HEN HRE
      clear ht8
      obtain ⟨A5, c5, hv5⟩ := own_form HJ.out.2.1.own
      subst hv5
      by_cases he : t8.1 = 0
      · have HRN : Hid (r = (outs.map (·.n), 0)) := Lib.hid (by rw [← HRE.out, if_pos he])
        rw [he] at HEN
        go_wp2_with (first
          | (go_at_call 47; go_loud ((with_reducible refine (HEN.out).mono ?_); rintro e5 w5 ⟨rfl, hin5, ho5⟩; have HO5 := Lib.hid ho5; clear hin5 ho5)))
        go_ret2
        rw [HRN.out]
        exact ⟨A5, c5, outs, by rw [hol]; rfl, rfl, Lib.hid ⟨by rw [hol] at *; exact (HJ.out.2.1.keep HO5.out (fun k hk => by have := HG.out.2; omega)).mono HQ1.out.size, (HJ.out.2.2.1.trans HO5.out).q HQ1.out (fun k hk => by rw [hk]; exact HG.out.1)⟩⟩
      · have HRN : Hid (r = ([], 2)) := Lib.hid (by rw [← HRE.out, if_neg he])
        have hne : ((t8.1 : Int) == 0) = false := beq_eq_false_iff_ne.2 (by omega)
        go_wp2_with (first
          | (go_at_call 47; go_loud ((with_reducible refine (HEN.out).mono ?_); rintro e5 w5 ⟨rfl, hin5, ho5⟩; have HO5 := Lib.hid ho5; clear hin5 ho5)))
        go_ret2
        rw [HRN.out]
        exact decOut_none ((HJ.out.2.2.1.trans HO5.out).q HQ1.out (fun k hk => by rw [hk]; exact HG.out.1))
end Go.Proofs.Ytffenfhbiapefaa
