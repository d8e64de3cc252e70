/- The walk through NodeChecks. -/
import Derived.Test.YtffenfhbiapefaaNds
import Derived.Test.YtffenfhbiapefaaNrc
import Derived.Test.YtffenfhbiapefaaNto
namespace Go.Proofs.Ytffenfhbiapefaa
set_option linter.unusedVariables false
set_option linter.unusedSimpArgs false
open Go.RowKit

def Fits (z : NdIn) : Prop := NdFit z.n z.pn ∧ z.pn ≤ 9223372036854775807 ∧ (∀ i ∈ z.n.ids, i.length = 32 ∧ ∀ x ∈ i, x ≤ 255) ∧ ∀ x ∈ z.n.tree, x ≤ 255
theorem fits_same {zs outs : List NdIn} (he : outs.map (fun z => (z.n, z.pn)) = zs.map fun z => (z.n, z.pn)) (hf : ∀ z ∈ zs, Fits z) : ∀ z ∈ outs, Fits z := fun z hz => by
  have h1 : (z.n, z.pn) ∈ zs.map fun z => (z.n, z.pn) := by rw [← he]; exact List.mem_map_of_mem hz
  obtain ⟨y, hy, e⟩ := List.mem_map.1 h1
  have h2 := hf y hy
  injection e with e1 e2
  unfold Fits at h2 ⊢
  rw [e1, e2] at h2
  exact h2
theorem Made.nodesAt {w0 w : World} {e : TypeId} {v : Value} {outs : List NdIn} (h : Made w0 w e v outs) (hf : ∀ z ∈ outs, Fits z) : ∃ A c, v = .slice A outs.length c ∧ NodesAt w A outs := by
  have h1 := h.own
  obtain ⟨A, c, rfl⟩ := own_form h1
  refine ⟨A, c, rfl, (own_seesS h1).more fun b hb => hb.2, fun z hz => ?_, hf⟩
  obtain ⟨D, cc, q1, _, q3, q4⟩ := (h.parts z hz).1
  injection q1 with q1 _ _
  rw [q1]
  exact q3.more fun b hb => (q4 b hb).2
theorem Made.len {zs outs : List NdIn} (he : outs.map (fun z => (z.n, z.pn)) = zs.map fun z => (z.n, z.pn)) : outs.length = zs.length := by
  have := congrArg List.length he
  simpa using this
set_option maxHeartbeats 16000000 in
set_option maxRecDepth 100000 in
theorem nodeChecks_walk (n : Nd) (A : Option Addr) (pn pc : Nat) (s : ByteArray) (w : World) (hp : SeesP w (· < w.heap.size) A (n.ids.flatMap gL)) (hf : Fits ⟨n, A, pn, pc⟩) (hs : s.size ≤ 9223372036854775807) (hb : pn ≤ 4398046510976) :
    Calls Try.prog 3 #[.agg (ndC n A pn pc), .string s] w fun e w' => e = .returned (.bool true) ∧ Q w w' := by
  have HP := Lib.hid hp
  have HF := Lib.hid hf
  have HFN : Hid (NdFit n pn) := Lib.hid hf.1
  clear hp hf
  have HN0 := Lib.hid nodes_ok
  have HTO : Hid (∀ w1, Q w w1 → Calls Try.prog 10 #[.slice (some ⟨w1.heap.size, 0, none⟩) 1 1] (w1.alloc (.cells (ndL n A pn pc).toArray 26)) fun e w' => ∃ g A' pc' c, e = .returned (.slice (some ⟨g, 0, none⟩) 1 c) ∧ Hid (NodeAt w' g 0 n A' pn pc' ∧ g < w'.heap.size ∧ Q (w1.alloc (.cells (ndL n A pn pc).toArray 26)) w')) := Lib.hid fun w1 hq1 => by
    have h := to_ok (some ⟨w1.heap.size, 0, none⟩) 1 1 [⟨n, A, pn, pc⟩] _ rfl (by decide) (nodesAt_new w1 n A pn pc 26 (SeesP.on HP.out hq1) HF.out) (fun z hz => by rw [List.mem_singleton.1 hz]; exact hb)
    refine h.mono fun e w' ⟨v, outs, he, hh⟩ => ?_
    obtain ⟨hM, hO⟩ := hh.out
    have hl : outs.length = 1 := Made.len hO
    obtain ⟨A2, c2, rfl, hN⟩ := hM.nodesAt (fits_same hO (fun z hz => by rw [List.mem_singleton.1 hz]; exact HF.out))
    match outs, hl with
    | [z], _ =>
      obtain ⟨b, o, e1, hb, hat⟩ := hN.at_ 0 (by simp)
      simp only [List.map_cons, List.map_nil, List.cons.injEq, Prod.mk.injEq, and_true] at hO
      have hg := hM.own
      subst e1
      have ho0 : o = 0 := by
        rcases hg.2 with ⟨h1, _⟩ | ⟨g, cap, cur, h1, _⟩
        · cases h1
        · injection h1 with h1 _ _; injection h1 with h1; injection h1
      subst ho0
      refine ⟨b, z.A, z.pc, c2, he, Lib.hid ⟨?_, hb, hM.q⟩⟩
      have e1 : z.n = n := hO.1
      have e2 : z.pn = pn := hO.2
      have h3 : NodeAt w' b (0 + 0 * 39) z.n z.A z.pn z.pc := hat
      rw [e1, e2] at h3
      simpa using h3
  obtain ⟨ck, hck⟩ : ∃ ck, ck = checkN n := ⟨_, rfl⟩
  have HC1 : Hid (∀ A' pc' w, Calls Try.prog 12 #[.agg (ndC n A' pn pc')] w fun e w' => e = .returned (.int .i64 (ck : Int)) ∧ Hid (Q w w')) := Lib.hid fun A' pc' w => by
    rw [hck]; exact (check_ok n A' pn pc' w HFN.out).mono fun e w2 h => ⟨h.1, Lib.hid h.2⟩
  have HC2 : Hid (∀ w, Calls Try.prog 13 #[.agg (ndC n A pn pc)] w fun e w' => e = .returned (.int .i64 (ck : Int)) ∧ Hid (Q w w')) := Lib.hid fun w => by
    rw [hck]; exact (refCheck_ok n A pn pc w HFN.out).mono fun e w2 h => ⟨h.1, Lib.hid h.2⟩
  obtain ⟨nb, hnb⟩ : ∃ nb, nb = nameB s := ⟨_, rfl⟩
  have HC3 : Hid (∀ w, Calls Try.prog 14 #[.string s] w fun e w' => e = .returned (.bool nb) ∧ Hid (Q w w')) := Lib.hid fun w => by
    rw [hnb]; exact (isName_ok s w hs).mono fun e w2 h => ⟨h.1, Lib.hid h.2⟩
  have HC4 : Hid (∀ w, Calls Try.prog 15 #[.string s] w fun e w' => e = .returned (.bool nb) ∧ Hid (Q w w')) := Lib.hid fun w => by
    rw [hnb]; exact (refIsName_ok s w hs).mono fun e w2 h => ⟨h.1, Lib.hid h.2⟩
  clear hck hnb hs HF HFN
  go_enter Try.func3, Try.ntmps3
  go_wp2_with (first
    | ((with_reducible refine gate 2 rfl ?_); go_loud (refine wpList_box_row rfl 26 (.tmp 0) rfl _ rfl 39 _ (nd_agg n A pn pc) ?_; intro w1 hr1 hx1; have HB := Lib.hid hr1; have HQ1 : Hid (Q w w1) := Lib.hid (hx1.q (Q.refl _)); have HTO1 := Lib.hid (HTO.out w1 HQ1.out); clear hr1 hx1))
    | ((with_reducible refine gate 6 rfl ?_); go_loud (refine wpList_val rfl (load_rnode (.tmp 2) rfl rfl (NodeAt.of_row HB.out)) ?_))
    | ((with_reducible refine gate 7 rfl ?_); go_loud (refine wpList_val rfl (run_row_rnode (.tmp 6) rfl n A pn pc rfl _) ?_))
    | (go_at_call 10; go_loud ((with_reducible refine (HTO1.out).mono ?_); rintro e5 w5 ⟨g, A', pc', c, rfl, H5⟩)))
  have HLT : Hid (g < w5.heap.size) := Lib.hid H5.out.2.1
  have HNT : Hid (NodeAt w5 g 0 n A' pn pc') := Lib.hid H5.out.1
  have HQ5 : Hid (Q w1 w5) := Lib.hid (((Q.refl w1).alloc _).step H5.out.2.2)
  -- REGION
  refine wp_region_factsL (by kernel_rfl) (by kernel_rfl) (factsOf [.is (.bool true), .is (.bool true), .is (.slice (some ⟨g, 0, none⟩) 1 c), .is (.pointer (some ⟨g, 0, none⟩)), .is (.agg (ndC n A' pn pc')), .is (.int .i64 (ck : Int)), .is (.agg (ndC n A pn pc)), .is (.int .i64 (ck : Int)), .is (.bool true), .is (.bool true), .is (.bool true), .is (.string s), .is (.bool nb), .is (.string s), .is (.bool nb), .is (.bool true), .is (.bool true), .is (.bool true)]) (factsOf_stays _) ?_ ?_
  · refine ⟨?_, ?_, ?_, ?_, ?_, ?_, ?_, ?_, ?_, ?_, ?_, ?_, ?_, ?_, ?_, ?_, ?_, ?_, trivial⟩
    · intro ax wx hq hfr hd
      exact .inl ⟨wanted_free rfl, OpDoes.call (f := 11) (args := #[]) (w' := wx) (by unfold execOp; simp [go_sem, Act.eval]) ((HN0.out wx).mono fun e w2 h => ⟨_, h.1, h.2.out, rfl⟩)⟩
    · intro ax wx hq hfr hd
      have f9 : ax.tmps.getD 9 undef = .bool true := hd 0 (by kernel_rfl) _ _ rfl rfl
      have e9 := (getD_form _ _).symm.trans f9
      exact .inl ⟨wanted_free rfl, OpDoes.run (v := .bool true) (w' := wx) (by unfold execOp; simp only [Act.eval, f9, Sem.run_pure]) ⟨Below.refl _ _, rfl⟩⟩
    · intro ax wx hq hfr hd
      have f5 : ax.tmps.getD 5 undef = .slice (some ⟨g, 0, none⟩) 1 c := (hfr 5 (by kernel_rfl)).trans rfl
      have e5 := (getD_form _ _).symm.trans f5
      exact .inl ⟨wanted_on rfl rfl rfl (hd 1 (by kernel_rfl) _ _ rfl rfl), OpDoes.run (v := .slice (some ⟨g, 0, none⟩) 1 c) (w' := wx) (by unfold execOp; simp only [Act.eval, f5, Sem.run_pure]) ⟨Below.refl _ _, rfl⟩⟩
    · intro ax wx hq hfr hd
      have f11 : ax.tmps.getD 11 undef = .slice (some ⟨g, 0, none⟩) 1 c := hd 2 (by kernel_rfl) _ _ rfl rfl
      have e11 := (getD_form _ _).symm.trans f11
      exact .inl ⟨wanted_on rfl rfl rfl (hd 1 (by kernel_rfl) _ _ rfl rfl), OpDoes.run (v := .pointer (some ⟨g, 0, none⟩)) (w' := wx) (by unfold execOp; simp [go_sem, Act.eval, e11, add_addr]) ⟨Below.refl _ _, rfl⟩⟩
    · intro ax wx hq hfr hd
      have f12 : ax.tmps.getD 12 undef = .pointer (some ⟨g, 0, none⟩) := hd 3 (by kernel_rfl) _ _ rfl rfl
      have e12 := (getD_form _ _).symm.trans f12
      exact .inl ⟨wanted_on rfl rfl rfl (hd 1 (by kernel_rfl) _ _ rfl rfl), OpDoes.run (v := .agg (ndC n A' pn pc')) (w' := wx) (load_node (.tmp 12) rfl f12 (fun i hi => (hq.cell (p := ⟨g, 0 + i, none⟩) HLT.out).trans (HNT.out i hi))) ⟨Below.refl _ _, rfl⟩⟩
    · intro ax wx hq hfr hd
      have f13 : ax.tmps.getD 13 undef = .agg (ndC n A' pn pc') := hd 4 (by kernel_rfl) _ _ rfl rfl
      have e13 := (getD_form _ _).symm.trans f13
      exact .inl ⟨wanted_on rfl rfl rfl (hd 1 (by kernel_rfl) _ _ rfl rfl), OpDoes.call (f := 12) (args := #[.agg (ndC n A' pn pc')]) (w' := wx) (by unfold execOp; simp [go_sem, Act.eval, e13]) ((HC1.out A' pc' wx).mono fun e w2 h => ⟨_, h.1, h.2.out, rfl⟩)⟩
    · intro ax wx hq hfr hd
      have f2 : ax.tmps.getD 2 undef = .pointer (some ⟨w.heap.size, 0, none⟩) := (hfr 2 (by kernel_rfl)).trans rfl
      have e2 := (getD_form _ _).symm.trans f2
      exact .inl ⟨wanted_on rfl rfl rfl (hd 1 (by kernel_rfl) _ _ rfl rfl), OpDoes.run (v := .agg (ndC n A pn pc)) (w' := wx) (load_rnode (.tmp 2) rfl f2 (NodeAt.of_row (row_q hq (row_q HQ5.out HB.out)))) ⟨Below.refl _ _, rfl⟩⟩
    · intro ax wx hq hfr hd
      have f15 : ax.tmps.getD 15 undef = .agg (ndC n A pn pc) := hd 6 (by kernel_rfl) _ _ rfl rfl
      have e15 := (getD_form _ _).symm.trans f15
      exact .inl ⟨wanted_on rfl rfl rfl (hd 1 (by kernel_rfl) _ _ rfl rfl), OpDoes.call (f := 13) (args := #[.agg (ndC n A pn pc)]) (w' := wx) (by unfold execOp; simp [go_sem, Act.eval, e15]) ((HC2.out wx).mono fun e w2 h => ⟨_, h.1, h.2.out, rfl⟩)⟩
    · intro ax wx hq hfr hd
      have f14 : ax.tmps.getD 14 undef = .int .i64 (ck : Int) := hd 5 (by kernel_rfl) _ _ rfl rfl
      have e14 := (getD_form _ _).symm.trans f14
      have f16 : ax.tmps.getD 16 undef = .int .i64 (ck : Int) := hd 7 (by kernel_rfl) _ _ rfl rfl
      have e16 := (getD_form _ _).symm.trans f16
      exact .inl ⟨wanted_on rfl rfl rfl (hd 1 (by kernel_rfl) _ _ rfl rfl), OpDoes.run (v := .bool true) (w' := wx) (by unfold execOp; simp [go_sem, Act.eval, e14, e16]) ⟨Below.refl _ _, rfl⟩⟩
    · intro ax wx hq hfr hd
      have f10 : ax.tmps.getD 10 undef = .bool true := hd 1 (by kernel_rfl) _ _ rfl rfl
      have e10 := (getD_form _ _).symm.trans f10
      have f17 : ax.tmps.getD 17 undef = .bool true := hd 8 (by kernel_rfl) _ _ rfl rfl
      have e17 := (getD_form _ _).symm.trans f17
      exact .inl ⟨wanted_free rfl, OpDoes.run (v := .bool true) (w' := wx) (by unfold execOp; simp [go_sem, Act.eval, e10, e17]) ⟨Below.refl _ _, rfl⟩⟩
    · intro ax wx hq hfr hd
      have f18 : ax.tmps.getD 18 undef = .bool true := hd 9 (by kernel_rfl) _ _ rfl rfl
      have e18 := (getD_form _ _).symm.trans f18
      exact .inl ⟨wanted_free rfl, OpDoes.run (v := .bool true) (w' := wx) (by unfold execOp; simp only [Act.eval, f18, Sem.run_pure]) ⟨Below.refl _ _, rfl⟩⟩
    · intro ax wx hq hfr hd
      have f1 : ax.tmps.getD 1 undef = .string s := (hfr 1 (by kernel_rfl)).trans rfl
      have e1 := (getD_form _ _).symm.trans f1
      exact .inl ⟨wanted_on rfl rfl rfl (hd 10 (by kernel_rfl) _ _ rfl rfl), OpDoes.run (v := .string s) (w' := wx) (by unfold execOp; simp only [Act.eval, f1, Sem.run_pure]) ⟨Below.refl _ _, rfl⟩⟩
    · intro ax wx hq hfr hd
      have f20 : ax.tmps.getD 20 undef = .string s := hd 11 (by kernel_rfl) _ _ rfl rfl
      have e20 := (getD_form _ _).symm.trans f20
      exact .inl ⟨wanted_on rfl rfl rfl (hd 10 (by kernel_rfl) _ _ rfl rfl), OpDoes.call (f := 14) (args := #[.string s]) (w' := wx) (by unfold execOp; simp [go_sem, Act.eval, e20]) ((HC3.out wx).mono fun e w2 h => ⟨_, h.1, h.2.out, rfl⟩)⟩
    · intro ax wx hq hfr hd
      have f1 : ax.tmps.getD 1 undef = .string s := (hfr 1 (by kernel_rfl)).trans rfl
      have e1 := (getD_form _ _).symm.trans f1
      exact .inl ⟨wanted_on rfl rfl rfl (hd 10 (by kernel_rfl) _ _ rfl rfl), OpDoes.run (v := .string s) (w' := wx) (by unfold execOp; simp only [Act.eval, f1, Sem.run_pure]) ⟨Below.refl _ _, rfl⟩⟩
    · intro ax wx hq hfr hd
      have f22 : ax.tmps.getD 22 undef = .string s := hd 13 (by kernel_rfl) _ _ rfl rfl
      have e22 := (getD_form _ _).symm.trans f22
      exact .inl ⟨wanted_on rfl rfl rfl (hd 10 (by kernel_rfl) _ _ rfl rfl), OpDoes.call (f := 15) (args := #[.string s]) (w' := wx) (by unfold execOp; simp [go_sem, Act.eval, e22]) ((HC4.out wx).mono fun e w2 h => ⟨_, h.1, h.2.out, rfl⟩)⟩
    · intro ax wx hq hfr hd
      have f21 : ax.tmps.getD 21 undef = .bool nb := hd 12 (by kernel_rfl) _ _ rfl rfl
      have e21 := (getD_form _ _).symm.trans f21
      have f23 : ax.tmps.getD 23 undef = .bool nb := hd 14 (by kernel_rfl) _ _ rfl rfl
      have e23 := (getD_form _ _).symm.trans f23
      exact .inl ⟨wanted_on rfl rfl rfl (hd 10 (by kernel_rfl) _ _ rfl rfl), OpDoes.run (v := .bool true) (w' := wx) (by unfold execOp; simp [go_sem, Act.eval, e21, e23]) ⟨Below.refl _ _, rfl⟩⟩
    · intro ax wx hq hfr hd
      have f19 : ax.tmps.getD 19 undef = .bool true := hd 10 (by kernel_rfl) _ _ rfl rfl
      have e19 := (getD_form _ _).symm.trans f19
      have f24 : ax.tmps.getD 24 undef = .bool true := hd 15 (by kernel_rfl) _ _ rfl rfl
      have e24 := (getD_form _ _).symm.trans f24
      exact .inl ⟨wanted_free rfl, OpDoes.run (v := .bool true) (w' := wx) (by unfold execOp; simp [go_sem, Act.eval, e19, e24]) ⟨Below.refl _ _, rfl⟩⟩
    · intro ax wx hq hfr hd
      have f25 : ax.tmps.getD 25 undef = .bool true := hd 16 (by kernel_rfl) _ _ rfl rfl
      have e25 := (getD_form _ _).symm.trans f25
      exact .inl ⟨wanted_free rfl, OpDoes.run (v := .bool true) (w' := wx) (by unfold execOp; simp only [Act.eval, f25, Sem.run_pure]) ⟨Below.refl _ _, rfl⟩⟩
  · intro us wx hq hf
    have f4 : us 4 = .bool true := hf 17 _ _ rfl rfl
    have HQX := Lib.hid hq
    clear hf hq
    simp only [fillSlots, List.setIfInBounds_toArray, List.set_cons_succ, List.set_cons_zero, f4]
    clear f4
  -- DNE
    go_wp2_with fail
    go_ret
    exact ⟨rfl, HQ1.out.step (HQ5.out.step HQX.out)⟩
end Go.Proofs.Ytffenfhbiapefaa
