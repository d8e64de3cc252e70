/- The walk through nodes: has a link its bytes? -/
import Derived.Test.YtffenfhbiapefaaEnc
import Derived.Test.YtffenfhbiapefaaNrc
import Derived.Test.YtffenfhbiapefaaNto
import Derived.Deep.DeepCutAuto
namespace Go.Proofs.Ytffenfhbiapefaa
set_option linter.unusedVariables false
set_option linter.unusedSimpArgs false
open Go.RowKit

section
/-- The chapter's link. -/
def lnk : Nd := ⟨⟨#[108]⟩, 2, 1, 2, 0, ⟨#[116]⟩, [], noId⟩
theorem lnk_good : checkN lnk = 0 := by decide +kernel
theorem lnk_bytes : encN [lnk] = ([72, 89, 110, 1, 1, 108, 2, 1, 2, 1, 116], 0) := by
  have e : encNd lnk = [1, 108, 2, 1, 2, 1, 116] := by
    unfold encNd textL numZ
    rw [numL_small (n := lnk.name.size) (by decide), numL_small (n := lnk.kind.toNat) (by decide), numL_small (n := lnk.mode.toNat) (by decide), numL_small (n := lnk.time.toNat) (by decide), if_neg (by decide), if_neg (by decide), numL_small (n := lnk.target.size) (by decide)]
    rfl
  unfold encN
  rw [if_neg (by decide), if_neg (by rw [show firstErr [lnk] = 0 from firstErr_none _ (fun n hn => by rw [List.mem_singleton.1 hn]; exact lnk_good)]; simp), if_pos (by rfl), List.flatMap_cons, e, numL_small (by decide)]
  rfl
theorem lnk_str : strB [72, 89, 110, 1, 1, 108, 2, 1, 2, 1, 116] = ⟨#[72, 89, 110, 1, 1, 108, 2, 1, 2, 1, 116]⟩ := by rfl
/-- A row of one node that was just made. -/
theorem nodesAt_new (w : World) (n : Nd) (A : Option Addr) (pn pc : Nat) (t : TypeId) (hp : SeesP w (· < w.heap.size) A (n.ids.flatMap gL)) (hf : NdFit n pn ∧ pn ≤ 9223372036854775807 ∧ (∀ i ∈ n.ids, i.length = 32 ∧ ∀ x ∈ i, x ≤ 255) ∧ ∀ x ∈ n.tree, x ≤ 255) :
    NodesAt (w.alloc (.cells (ndL n A pn pc).toArray t)) (some ⟨w.heap.size, 0, none⟩) [⟨n, A, pn, pc⟩] := by
  refine ⟨?_, fun z hz => ?_, fun z hz => ?_⟩
  · have h := (SeesP.new w (ndL n A pn pc) t).more (ok' := (· < (w.alloc (.cells (ndL n A pn pc).toArray t)).heap.size)) (fun b hb => by simpa using hb)
    simpa [ndsL] using h
  · obtain rfl := List.mem_singleton.1 hz
    exact SeesP.on hp ((Q.refl w).alloc _)
  · obtain rfl := List.mem_singleton.1 hz
    exact hf
set_option maxHeartbeats 16000000 in
set_option maxRecDepth 100000 in
theorem nodes_ok (w : World) : Calls Try.prog 11 #[] w fun e w' => e = .returned (.bool true) ∧ Hid (Q w w') := by
  have HE : Hid (∀ t, Calls Try.prog 18 #[.slice (some ⟨w.heap.size, 0, none⟩) 1 1] (w.alloc (.cells (ndL lnk none 0 0).toArray t)) (fun e_ w' => ∃ A c, e_ = .returned (.tuple #[.slice A 11 c, .int .i64 0]) ∧ Hid (w'.ownsRow (w.alloc (.cells (ndL lnk none 0 0).toArray t)).heap.size 5 1 (.slice A 11 c) 11 ([72, 89, 110, 1, 1, 108, 2, 1, 2, 1, 116].map B8) ∧ Q w w'))) := Lib.hid fun t => by
    have h := encode_ok (some ⟨w.heap.size, 0, none⟩) 1 1 [⟨lnk, none, 0, 0⟩] _ rfl (by decide) (nodesAt_new w lnk none 0 0 t (SeesP.nil _ _ _) ⟨⟨rfl, by decide, by decide, by decide, by decide⟩, by decide, by simp [lnk], by decide⟩) (by simp)
    refine h.mono fun e_ w' ⟨A, c, n, he, hh⟩ => ?_
    rw [show [(⟨lnk, none, 0, 0⟩ : NdIn)].map (·.n) = [lnk] from rfl, lnk_bytes] at he hh
    obtain ⟨h1, h2, h3, _⟩ := hh.out
    obtain rfl : 11 = n := h1
    exact ⟨A, c, he, Lib.hid ⟨h2, ((Q.refl w).alloc _).step h3⟩⟩
  go_enter Try.func11, Try.ntmps11
  go_wp2_with (first
    | ((with_reducible refine gate 5 rfl ?_); go_loud (refine wpList_val rfl (run_row_node (.tmp 4) rfl lnk none 0 0 rfl _) ?_))
    | (go_at_call 18; go_loud ((with_reducible refine (HE.out _).mono ?_); rintro e5 w5 ⟨A, c, rfl, H5⟩; have hk := run_convert_sees (P := Try.prog) w5 40 9 5 Try.underlying40 Try.underlying5 Try.underlying9 _ A 11 c [72, 89, 110, 1, 1, 108, 2, 1, 2, 1, 116] rfl (sees_own H5.out.1); rw [lnk_str] at hk)))
  go_ret
  exact ⟨rfl, Lib.hid H5.out.2⟩
end

section
def Fits (z : NdIn) : Prop := NdFit z.n z.pn ∧ z.pn ≤ 9223372036854775807 ∧ (∀ i ∈ z.n.ids, i.length = 32 ∧ ∀ x ∈ i, x ≤ 255) ∧ ∀ x ∈ z.n.tree, x ≤ 255
theorem fits_same {zs outs : List NdIn} (he : outs.map (fun z => (z.n, z.pn)) = zs.map fun z => (z.n, z.pn)) (hf : ∀ z ∈ zs, Fits z) : ∀ z ∈ outs, Fits z := fun z hz => by
  have h1 : (z.n, z.pn) ∈ zs.map fun z => (z.n, z.pn) := by rw [← he]; exact List.mem_map_of_mem hz
  obtain ⟨y, hy, e⟩ := List.mem_map.1 h1
  have h2 := hf y hy
  injection e with e1 e2
  unfold Fits at h2 ⊢
  rw [e1, e2] at h2
  exact h2
theorem Made.nodesAt {w0 w : World} {e : TypeId} {v : Value} {outs : List NdIn} (h : Made w0 w e v outs) (hf : ∀ z ∈ outs, Fits z) : ∃ A c, v = .slice A outs.length c ∧ NodesAt w A outs := by
  have h1 := h.own
  obtain ⟨A, c, rfl⟩ := own_form h1
  refine ⟨A, c, rfl, (own_seesS h1).more fun b hb => hb.2, fun z hz => ?_, hf⟩
  obtain ⟨D, cc, q1, _, q3, q4⟩ := (h.parts z hz).1
  injection q1 with q1 _ _
  rw [q1]
  exact q3.more fun b hb => (q4 b hb).2
theorem Made.len {zs outs : List NdIn} (he : outs.map (fun z => (z.n, z.pn)) = zs.map fun z => (z.n, z.pn)) : outs.length = zs.length := by
  have := congrArg List.length he
  simpa using this
set_option maxHeartbeats 16000000 in
set_option maxRecDepth 100000 in
theorem nodeChecks_walk (n : Nd) (A : Option Addr) (pn pc : Nat) (s : ByteArray) (w : World) (hp : SeesP w (· < w.heap.size) A (n.ids.flatMap gL)) (hf : Fits ⟨n, A, pn, pc⟩) (hs : s.size ≤ 9223372036854775807) (hb : pn ≤ 4398046510976) :
    Calls Try.prog 3 #[.agg (ndC n A pn pc), .string s] w fun e w' => e = .returned (.bool true) ∧ Q w w' := by
  have HP := Lib.hid hp
  have HF := Lib.hid hf
  have HFN : Hid (NdFit n pn) := Lib.hid hf.1
  clear hp hf
  have HN0 := Lib.hid nodes_ok
  have HTO : Hid (∀ w1, Q w w1 → Calls Try.prog 10 #[.slice (some ⟨w1.heap.size, 0, none⟩) 1 1] (w1.alloc (.cells (ndL n A pn pc).toArray 26)) fun e w' => ∃ g A' pc' c, e = .returned (.slice (some ⟨g, 0, none⟩) 1 c) ∧ Hid (NodeAt w' g 0 n A' pn pc' ∧ g < w'.heap.size ∧ Q (w1.alloc (.cells (ndL n A pn pc).toArray 26)) w')) := Lib.hid fun w1 hq1 => by
    have h := to_ok (some ⟨w1.heap.size, 0, none⟩) 1 1 [⟨n, A, pn, pc⟩] _ rfl (by decide) (nodesAt_new w1 n A pn pc 26 (SeesP.on HP.out hq1) HF.out) (fun z hz => by rw [List.mem_singleton.1 hz]; exact hb)
    refine h.mono fun e w' ⟨v, outs, he, hh⟩ => ?_
    obtain ⟨hM, hO⟩ := hh.out
    have hl : outs.length = 1 := Made.len hO
    obtain ⟨A2, c2, rfl, hN⟩ := hM.nodesAt (fits_same hO (fun z hz => by rw [List.mem_singleton.1 hz]; exact HF.out))
    match outs, hl with
    | [z], _ =>
      obtain ⟨b, o, e1, hb, hat⟩ := hN.at_ 0 (by simp)
      simp only [List.map_cons, List.map_nil, List.cons.injEq, Prod.mk.injEq, and_true] at hO
      have hg := hM.own
      subst e1
      have ho0 : o = 0 := by
        rcases hg.2 with ⟨h1, _⟩ | ⟨g, cap, cur, h1, _⟩
        · cases h1
        · injection h1 with h1 _ _; injection h1 with h1; injection h1
      subst ho0
      refine ⟨b, z.A, z.pc, c2, he, Lib.hid ⟨?_, hb, hM.q⟩⟩
      have e1 : z.n = n := hO.1
      have e2 : z.pn = pn := hO.2
      have h3 : NodeAt w' b (0 + 0 * 39) z.n z.A z.pn z.pc := hat
      rw [e1, e2] at h3
      simpa using h3
  obtain ⟨ck, hck⟩ : ∃ ck, ck = checkN n := ⟨_, rfl⟩
  have HC1 : Hid (∀ A' pc' w, Calls Try.prog 12 #[.agg (ndC n A' pn pc')] w fun e w' => e = .returned (.int .i64 (ck : Int)) ∧ Hid (Q w w')) := Lib.hid fun A' pc' w => by
    rw [hck]; exact (check_ok n A' pn pc' w HFN.out).mono fun e w2 h => ⟨h.1, Lib.hid h.2⟩
  have HC2 : Hid (∀ w, Calls Try.prog 13 #[.agg (ndC n A pn pc)] w fun e w' => e = .returned (.int .i64 (ck : Int)) ∧ Hid (Q w w')) := Lib.hid fun w => by
    rw [hck]; exact (refCheck_ok n A pn pc w HFN.out).mono fun e w2 h => ⟨h.1, Lib.hid h.2⟩
  obtain ⟨nb, hnb⟩ : ∃ nb, nb = nameB s := ⟨_, rfl⟩
  have HC3 : Hid (∀ w, Calls Try.prog 14 #[.string s] w fun e w' => e = .returned (.bool nb) ∧ Hid (Q w w')) := Lib.hid fun w => by
    rw [hnb]; exact (isName_ok s w hs).mono fun e w2 h => ⟨h.1, Lib.hid h.2⟩
  have HC4 : Hid (∀ w, Calls Try.prog 15 #[.string s] w fun e w' => e = .returned (.bool nb) ∧ Hid (Q w w')) := Lib.hid fun w => by
    rw [hnb]; exact (refIsName_ok s w hs).mono fun e w2 h => ⟨h.1, Lib.hid h.2⟩
  clear hck hnb hs HF HFN
  go_enter Try.func3, Try.ntmps3
  go_wp2_with (first
    | ((with_reducible refine gate 2 rfl ?_); go_loud (refine wpList_box_row rfl 26 (.tmp 0) rfl _ rfl 39 _ (nd_agg n A pn pc) ?_; intro w1 hr1 hx1; have HB := Lib.hid hr1; have HQ1 : Hid (Q w w1) := Lib.hid (hx1.q (Q.refl _)); have HTO1 := Lib.hid (HTO.out w1 HQ1.out); clear hr1 hx1))
    | ((with_reducible refine gate 6 rfl ?_); go_loud (refine wpList_val rfl (load_rnode (.tmp 2) rfl rfl (NodeAt.of_row HB.out)) ?_))
    | ((with_reducible refine gate 7 rfl ?_); go_loud (refine wpList_val rfl (run_row_rnode (.tmp 6) rfl n A pn pc rfl _) ?_))
    | (go_at_call 10; go_loud ((with_reducible refine (HTO1.out).mono ?_); rintro e5 w5 ⟨g, A', pc', c, rfl, H5⟩)))
  have HLT : Hid (g < w5.heap.size) := Lib.hid H5.out.2.1
  have HNT : Hid (NodeAt w5 g 0 n A' pn pc') := Lib.hid H5.out.1
  have HQ5 : Hid (Q w1 w5) := Lib.hid (((Q.refl w1).alloc _).step H5.out.2.2)
  -- REGION
  refine wp_region_factsL (by kernel_rfl) (by kernel_rfl) (factsOf [.is (.bool true), .is (.bool true), .is (.slice (some ⟨g, 0, none⟩) 1 c), .is (.pointer (some ⟨g, 0, none⟩)), .is (.agg (ndC n A' pn pc')), .is (.int .i64 (ck : Int)), .is (.agg (ndC n A pn pc)), .is (.int .i64 (ck : Int)), .is (.bool true), .is (.bool true), .is (.bool true), .is (.string s), .is (.bool nb), .is (.string s), .is (.bool nb), .is (.bool true), .is (.bool true), .is (.bool true)]) (factsOf_stays _) ?_ ?_
  · refine ⟨?_, ?_, ?_, ?_, ?_, ?_, ?_, ?_, ?_, ?_, ?_, ?_, ?_, ?_, ?_, ?_, ?_, ?_, trivial⟩
    · intro ax wx hq hfr hd
      exact .inl ⟨wanted_free rfl, OpDoes.call (f := 11) (args := #[]) (w' := wx) (by unfold execOp; simp [go_sem, Act.eval]) ((HN0.out wx).mono fun e w2 h => ⟨_, h.1, h.2.out, rfl⟩)⟩
    · intro ax wx hq hfr hd
      have f9 : ax.tmps.getD 9 undef = .bool true := hd 0 (by kernel_rfl) _ _ rfl rfl
      have e9 := (getD_form _ _).symm.trans f9
      exact .inl ⟨wanted_free rfl, OpDoes.run (v := .bool true) (w' := wx) (by unfold execOp; simp only [Act.eval, f9, Sem.run_pure]) ⟨Below.refl _ _, rfl⟩⟩
    · intro ax wx hq hfr hd
      have f5 : ax.tmps.getD 5 undef = .slice (some ⟨g, 0, none⟩) 1 c := (hfr 5 (by kernel_rfl)).trans rfl
      have e5 := (getD_form _ _).symm.trans f5
      exact .inl ⟨wanted_on rfl rfl rfl (hd 1 (by kernel_rfl) _ _ rfl rfl), OpDoes.run (v := .slice (some ⟨g, 0, none⟩) 1 c) (w' := wx) (by unfold execOp; simp only [Act.eval, f5, Sem.run_pure]) ⟨Below.refl _ _, rfl⟩⟩
    · intro ax wx hq hfr hd
      have f11 : ax.tmps.getD 11 undef = .slice (some ⟨g, 0, none⟩) 1 c := hd 2 (by kernel_rfl) _ _ rfl rfl
      have e11 := (getD_form _ _).symm.trans f11
      exact .inl ⟨wanted_on rfl rfl rfl (hd 1 (by kernel_rfl) _ _ rfl rfl), OpDoes.run (v := .pointer (some ⟨g, 0, none⟩)) (w' := wx) (by unfold execOp; simp [go_sem, Act.eval, e11, add_addr]) ⟨Below.refl _ _, rfl⟩⟩
    · intro ax wx hq hfr hd
      have f12 : ax.tmps.getD 12 undef = .pointer (some ⟨g, 0, none⟩) := hd 3 (by kernel_rfl) _ _ rfl rfl
      have e12 := (getD_form _ _).symm.trans f12
      exact .inl ⟨wanted_on rfl rfl rfl (hd 1 (by kernel_rfl) _ _ rfl rfl), OpDoes.run (v := .agg (ndC n A' pn pc')) (w' := wx) (load_node (.tmp 12) rfl f12 (fun i hi => (hq.cell (p := ⟨g, 0 + i, none⟩) HLT.out).trans (HNT.out i hi))) ⟨Below.refl _ _, rfl⟩⟩
    · intro ax wx hq hfr hd
      have f13 : ax.tmps.getD 13 undef = .agg (ndC n A' pn pc') := hd 4 (by kernel_rfl) _ _ rfl rfl
      have e13 := (getD_form _ _).symm.trans f13
      exact .inl ⟨wanted_on rfl rfl rfl (hd 1 (by kernel_rfl) _ _ rfl rfl), OpDoes.call (f := 12) (args := #[.agg (ndC n A' pn pc')]) (w' := wx) (by unfold execOp; simp [go_sem, Act.eval, e13]) ((HC1.out A' pc' wx).mono fun e w2 h => ⟨_, h.1, h.2.out, rfl⟩)⟩
    · intro ax wx hq hfr hd
      have f2 : ax.tmps.getD 2 undef = .pointer (some ⟨w.heap.size, 0, none⟩) := (hfr 2 (by kernel_rfl)).trans rfl
      have e2 := (getD_form _ _).symm.trans f2
      exact .inl ⟨wanted_on rfl rfl rfl (hd 1 (by kernel_rfl) _ _ rfl rfl), OpDoes.run (v := .agg (ndC n A pn pc)) (w' := wx) (load_rnode (.tmp 2) rfl f2 (NodeAt.of_row (row_q hq (row_q HQ5.out HB.out)))) ⟨Below.refl _ _, rfl⟩⟩
    · intro ax wx hq hfr hd
      have f15 : ax.tmps.getD 15 undef = .agg (ndC n A pn pc) := hd 6 (by kernel_rfl) _ _ rfl rfl
      have e15 := (getD_form _ _).symm.trans f15
      exact .inl ⟨wanted_on rfl rfl rfl (hd 1 (by kernel_rfl) _ _ rfl rfl), OpDoes.call (f := 13) (args := #[.agg (ndC n A pn pc)]) (w' := wx) (by unfold execOp; simp [go_sem, Act.eval, e15]) ((HC2.out wx).mono fun e w2 h => ⟨_, h.1, h.2.out, rfl⟩)⟩
    · intro ax wx hq hfr hd
      have f14 : ax.tmps.getD 14 undef = .int .i64 (ck : Int) := hd 5 (by kernel_rfl) _ _ rfl rfl
      have e14 := (getD_form _ _).symm.trans f14
      have f16 : ax.tmps.getD 16 undef = .int .i64 (ck : Int) := hd 7 (by kernel_rfl) _ _ rfl rfl
      have e16 := (getD_form _ _).symm.trans f16
      exact .inl ⟨wanted_on rfl rfl rfl (hd 1 (by kernel_rfl) _ _ rfl rfl), OpDoes.run (v := .bool true) (w' := wx) (by unfold execOp; simp [go_sem, Act.eval, e14, e16]) ⟨Below.refl _ _, rfl⟩⟩
    · intro ax wx hq hfr hd
      have f10 : ax.tmps.getD 10 undef = .bool true := hd 1 (by kernel_rfl) _ _ rfl rfl
      have e10 := (getD_form _ _).symm.trans f10
      have f17 : ax.tmps.getD 17 undef = .bool true := hd 8 (by kernel_rfl) _ _ rfl rfl
      have e17 := (getD_form _ _).symm.trans f17
      exact .inl ⟨wanted_free rfl, OpDoes.run (v := .bool true) (w' := wx) (by unfold execOp; simp [go_sem, Act.eval, e10, e17]) ⟨Below.refl _ _, rfl⟩⟩
    · intro ax wx hq hfr hd
      have f18 : ax.tmps.getD 18 undef = .bool true := hd 9 (by kernel_rfl) _ _ rfl rfl
      have e18 := (getD_form _ _).symm.trans f18
      exact .inl ⟨wanted_free rfl, OpDoes.run (v := .bool true) (w' := wx) (by unfold execOp; simp only [Act.eval, f18, Sem.run_pure]) ⟨Below.refl _ _, rfl⟩⟩
    · intro ax wx hq hfr hd
      have f1 : ax.tmps.getD 1 undef = .string s := (hfr 1 (by kernel_rfl)).trans rfl
      have e1 := (getD_form _ _).symm.trans f1
      exact .inl ⟨wanted_on rfl rfl rfl (hd 10 (by kernel_rfl) _ _ rfl rfl), OpDoes.run (v := .string s) (w' := wx) (by unfold execOp; simp only [Act.eval, f1, Sem.run_pure]) ⟨Below.refl _ _, rfl⟩⟩
    · intro ax wx hq hfr hd
      have f20 : ax.tmps.getD 20 undef = .string s := hd 11 (by kernel_rfl) _ _ rfl rfl
      have e20 := (getD_form _ _).symm.trans f20
      exact .inl ⟨wanted_on rfl rfl rfl (hd 10 (by kernel_rfl) _ _ rfl rfl), OpDoes.call (f := 14) (args := #[.string s]) (w' := wx) (by unfold execOp; simp [go_sem, Act.eval, e20]) ((HC3.out wx).mono fun e w2 h => ⟨_, h.1, h.2.out, rfl⟩)⟩
    · intro ax wx hq hfr hd
      have f1 : ax.tmps.getD 1 undef = .string s := (hfr 1 (by kernel_rfl)).trans rfl
      have e1 := (getD_form _ _).symm.trans f1
      exact .inl ⟨wanted_on rfl rfl rfl (hd 10 (by kernel_rfl) _ _ rfl rfl), OpDoes.run (v := .string s) (w' := wx) (by unfold execOp; simp only [Act.eval, f1, Sem.run_pure]) ⟨Below.refl _ _, rfl⟩⟩
    · intro ax wx hq hfr hd
      have f22 : ax.tmps.getD 22 undef = .string s := hd 13 (by kernel_rfl) _ _ rfl rfl
      have e22 := (getD_form _ _).symm.trans f22
      exact .inl ⟨wanted_on rfl rfl rfl (hd 10 (by kernel_rfl) _ _ rfl rfl), OpDoes.call (f := 15) (args := #[.string s]) (w' := wx) (by unfold execOp; simp [go_sem, Act.eval, e22]) ((HC4.out wx).mono fun e w2 h => ⟨_, h.1, h.2.out, rfl⟩)⟩
    · intro ax wx hq hfr hd
      have f21 : ax.tmps.getD 21 undef = .bool nb := hd 12 (by kernel_rfl) _ _ rfl rfl
      have e21 := (getD_form _ _).symm.trans f21
      have f23 : ax.tmps.getD 23 undef = .bool nb := hd 14 (by kernel_rfl) _ _ rfl rfl
      have e23 := (getD_form _ _).symm.trans f23
      exact .inl ⟨wanted_on rfl rfl rfl (hd 10 (by kernel_rfl) _ _ rfl rfl), OpDoes.run (v := .bool true) (w' := wx) (by unfold execOp; simp [go_sem, Act.eval, e21, e23]) ⟨Below.refl _ _, rfl⟩⟩
    · intro ax wx hq hfr hd
      have f19 : ax.tmps.getD 19 undef = .bool true := hd 10 (by kernel_rfl) _ _ rfl rfl
      have e19 := (getD_form _ _).symm.trans f19
      have f24 : ax.tmps.getD 24 undef = .bool true := hd 15 (by kernel_rfl) _ _ rfl rfl
      have e24 := (getD_form _ _).symm.trans f24
      exact .inl ⟨wanted_free rfl, OpDoes.run (v := .bool true) (w' := wx) (by unfold execOp; simp [go_sem, Act.eval, e19, e24]) ⟨Below.refl _ _, rfl⟩⟩
    · intro ax wx hq hfr hd
      have f25 : ax.tmps.getD 25 undef = .bool true := hd 16 (by kernel_rfl) _ _ rfl rfl
      have e25 := (getD_form _ _).symm.trans f25
      exact .inl ⟨wanted_free rfl, OpDoes.run (v := .bool true) (w' := wx) (by unfold execOp; simp only [Act.eval, f25, Sem.run_pure]) ⟨Below.refl _ _, rfl⟩⟩
  · intro us wx hq hf
    have f4 : us 4 = .bool true := hf 17 _ _ rfl rfl
    have HQX := Lib.hid hq
    clear hf hq
    simp only [fillSlots, List.setIfInBounds_toArray, List.set_cons_succ, List.set_cons_zero, f4]
    clear f4
  -- DNE
    go_wp2_with fail
    go_ret
    exact ⟨rfl, HQ1.out.step (HQ5.out.step HQX.out)⟩
end

section
/-- A row of nodes, made since world w0; their lists lie where they lay. -/
structure RowN (w0 w : World) (e : TypeId) (v : Value) (zs : List NdIn) : Prop where
  own : w.ownsRow w0.heap.size e 39 v zs.length (ndsL zs)
  q : Q w0 w
theorem RowN.begin_ (w0 : World) (e : TypeId) : RowN w0 w0 e (.slice none 0 0) [] := ⟨World.ownsRow_nil _ _ _ _, Q.refl _⟩
theorem RowN.step {w0 w w' : World} {e : TypeId} {v : Value} {zs : List NdIn} (h : RowN w0 w e v zs) (hq : Q w w') : RowN w0 w' e v zs := ⟨own_q h.own hq, h.q.step hq⟩
theorem RowN.push {w0 w w' : World} {e : TypeId} {v v' : Value} {zs : List NdIn} {z : NdIn} (h : RowN w0 w e v zs) (hg : Grew w w' v v') (hown : w'.ownsRow w0.heap.size e 39 v' (zs.length + 1) (ndsL zs ++ ndL z.n z.A z.pn z.pc)) : RowN w0 w' e v' (zs ++ [z]) :=
  ⟨by simpa [ndsL] using hown, hg.q h.q h.own⟩
theorem RowN.nodesAt {w0 w : World} {e : TypeId} {v : Value} {zs : List NdIn} (h : RowN w0 w e v zs) (hp : ∀ z ∈ zs, SeesP w0 (· < w0.heap.size) z.A (z.n.ids.flatMap gL)) (hf : ∀ z ∈ zs, Fits z) : ∃ A c, v = .slice A zs.length c ∧ NodesAt w A zs := by
  have h1 := h.own
  obtain ⟨A, c, rfl⟩ := own_form h1
  exact ⟨A, c, rfl, (own_seesS h1).more fun b hb => hb.2, fun z hz => SeesP.on (hp z hz) h.q, hf⟩
def fewP (z : NdIn) : Bool := decide (z.pn ≤ 300) && decide (z.n.target.size < 10000)
def fewL (zs : List NdIn) : List NdIn := (zs.take 60).filter fewP
set_option maxHeartbeats 16000000 in
set_option maxRecDepth 100000 in
theorem few_ok (A0 : Option Addr) (nn nc : Nat) (zs : List NdIn) (w0 : World) (hz : zs.length = nn) (hn : nn ≤ 9223372036854775807) (h : NodesAt w0 A0 zs) :
    Calls Try.prog 16 #[.slice A0 nn nc] w0 fun e w' => ∃ v, e = .returned v ∧ Hid (RowN w0 w' 26 v (fewL zs)) := by
  obtain ⟨iN, hiN, hzN0, hzN1, hzN2⟩ := info_parts infoR
  have HZ := Lib.hid hz
  have HN := Lib.hid h
  clear hz h
  go_enter Try.func16, Try.ntmps16
  go_wp2_with fail
  go_loopw [3, 4] (fun v i wr => ∃ k : Nat, k ≤ nn ∧ k ≤ 60 ∧ i = .int .i64 k ∧ Hid (RowN w0 wr 26 v (fewL (zs.take k)))) (fun _ i _ => 60 - (intOf i).toNat)
  case atStart => exact ⟨0, by omega, by omega, rfl, RowN.begin_ _ _⟩
  case round =>
    obtain ⟨k, hk, hk60, rfl, HM⟩ := hrel
    obtain ⟨wq, hwq⟩ : ∃ w, w = wr := ⟨_, rfl⟩
    subst hwq
    by_cases hlt : k < nn
    · by_cases h60 : k < 60
      · have hkz : k < zs.length := by rw [HZ.out]; exact hlt
        obtain ⟨b, o, e1, hb, hat⟩ := (HN.out.q HM.out.q).at_ k hkz
        have hfit := HN.out.fit zs[k] (List.getElem_mem hkz)
        have HTK : Hid (fewL (zs.take (k + 1)) = fewL (zs.take k) ++ if fewP zs[k] then [zs[k]] else []) := Lib.hid (by
          unfold fewL
          rw [List.take_take, List.take_take, Nat.min_eq_right (by omega), Nat.min_eq_right (by omega), List.take_succ_eq_append_getElem hkz, List.filter_append]
          congr 1
          cases h : fewP zs[k] <;> simp [h])
        have HLE : Hid ((fewL (zs.take k)).length ≤ 60) := Lib.hid (by
          unfold fewL
          have h1 := List.length_filter_le fewP ((zs.take k).take 60)
          have h2 := List.length_take_le 60 (zs.take k)
          omega)
        generalize zs[k] = z at *
        generalize fewL (zs.take k) = ys at *
        obtain ⟨n, A, pn, pc⟩ := z
        have hsz := hfit.1.target
        have hpn := hfit.2.1
        simp only at hsz hpn hat
        have HAT := Lib.hid hat
        have c5 := hat.target
        have c6 := hat.parts
        clear hfit hkz hat
        subst e1
        by_cases hp : pn ≤ 300
        · by_cases ht : n.target.size < 10000
          · have HP : Hid (fewP ⟨n, A, pn, pc⟩ = true) := Lib.hid (by unfold fewP; simp [hp, ht])
            go_wp2_with (first
              | ((with_reducible refine gate 35 rfl ?_); go_loud (refine wpList_val rfl (load_rnode (.tmp 34) rfl rfl HAT.out) ?_))
              | ((with_reducible refine gate 36 rfl ?_); go_loud (refine wpList_val rfl (run_row_rnode (.tmp 35) rfl n A pn pc rfl _) ?_))
              | ((with_reducible refine gate 37 rfl ?_); go_loud (refine wpList_append_agg rfl (.tmp 31) (.tmp 36) 29 rfl w0.heap.size 26 iN _ 39 120 Try.underlying29 hiN hzN0 hzN1 hzN2 rfl (by omega) _ ys.length (ndsL ys) rfl HM.out.own (ndL n A pn pc) _ _ rfl rfl (ndL_len _ _ _ _) (ndL_one _ _ _ _) (by have := HLE.out; unfold maxLen; omega) (by have := HLE.out; omega) HM.out.q.size ?_; intro v7 w7 hown7 hgr7 _; have HM7 := Lib.hid (HM.out.push (z := ⟨n, A, pn, pc⟩) hgr7 hown7); clear hown7 hgr7)))
            go_roundw
            case rel => exact ⟨k + 1, by omega, by omega, by go_num, by rw [HTK.out, HP.out]; exact HM7.out⟩
            case measure => simp [intOf]; omega
          · have HP : Hid (fewP ⟨n, A, pn, pc⟩ = false) := Lib.hid (by unfold fewP; simp [ht])
            go_wp2_with fail
            go_roundw
            case rel => exact ⟨k + 1, by omega, by omega, by go_num, by rw [HTK.out, HP.out]; exact Lib.hid (by simpa using HM.out)⟩
            case measure => simp [intOf]; omega
        · have HP : Hid (fewP ⟨n, A, pn, pc⟩ = false) := Lib.hid (by unfold fewP; simp [hp])
          go_wp2_with fail
          go_roundw
          case rel => exact ⟨k + 1, by omega, by omega, by go_num, by rw [HTK.out, HP.out]; exact Lib.hid (by simpa using HM.out)⟩
          case measure => simp [intOf]; omega
      · obtain rfl : k = 60 := by omega
        have HR : Hid (fewL (zs.take 60) = fewL zs) := Lib.hid (by unfold fewL; rw [List.take_take, Nat.min_self])
        go_wp2_with fail
        go_ret
        exact ⟨_, rfl, by rw [← HR.out]; exact HM.out⟩
    · obtain rfl : nn = k := by omega
      have HR : Hid (fewL (zs.take nn) = fewL zs) := Lib.hid (by rw [List.take_of_length_le (by rw [HZ.out]; exact Nat.le_refl _)])
      go_wp2_with fail
      go_ret
      exact ⟨_, rfl, by rw [← HR.out]; exact HM.out⟩
set_option maxHeartbeats 16000000 in
set_option maxRecDepth 100000 in
theorem from_ok (A0 : Option Addr) (nn nc : Nat) (zs : List NdIn) (w0 : World) (hz : zs.length = nn) (hn : nn ≤ 10000) (h : NodesAt w0 A0 zs) :
    Calls Try.prog 20 #[.slice A0 nn nc] w0 fun e w' => ∃ v, e = .returned v ∧ Hid (RowN w0 w' 26 v zs) := by
  obtain ⟨iN, hiN, hzN0, hzN1, hzN2⟩ := info_parts infoR
  have HZ := Lib.hid hz
  have HN := Lib.hid h
  clear hz h
  go_enter Try.func20, Try.ntmps20
  go_wp2_with fail
  go_loopw [3, 4] (fun v i wr => ∃ k : Nat, k ≤ nn ∧ i = .int .i64 k ∧ Hid (RowN w0 wr 26 v (zs.take k))) (fun _ i _ => nn - (intOf i).toNat)
  case atStart => exact ⟨0, by omega, rfl, RowN.begin_ _ _⟩
  case round =>
    obtain ⟨k, hk, rfl, HM⟩ := hrel
    obtain ⟨wq, hwq⟩ : ∃ w, w = wr := ⟨_, rfl⟩
    subst hwq
    by_cases hlt : k < nn
    · have hkz : k < zs.length := by rw [HZ.out]; exact hlt
      obtain ⟨b, o, e1, hb, hat⟩ := (HN.out.q HM.out.q).at_ k hkz
      have HTK : Hid (zs.take (k + 1) = zs.take k ++ [zs[k]]) := Lib.hid (List.take_succ_eq_append_getElem hkz)
      have HLE : Hid ((zs.take k).length = k) := Lib.hid (by rw [List.length_take]; omega)
      generalize zs[k] = z at *
      generalize zs.take k = ys at *
      obtain ⟨n, A, pn, pc⟩ := z
      simp only at hat
      have HAT := Lib.hid hat
      clear hkz hat
      subst e1
      go_wp2_with (first
        | ((with_reducible refine gate 15 rfl ?_); go_loud (refine wpList_val rfl (load_node (.tmp 14) rfl rfl HAT.out) ?_))
        | ((with_reducible refine gate 5 rfl ?_); go_loud (refine wpList_alloc_row rfl 33 rfl _ (zeroN _) 39 _ (ndC_size _ _ _ _) (ndC_get _ _ _ _) ?_; intro w1 hr1 hx1; have H1 := Lib.hid (And.intro hr1 (hx1.q (Q.refl _))); clear hr1 hx1))
        | ((with_reducible refine gate0 rfl ?_); go_loud (refine wpList_store_all rfl 33 (.tmp 5) (.tmp 15) rfl wq.heap.size rfl _ rfl 39 sizeN _ (nd_agg n A pn pc) (fun i _ => ndF_one _ _ _ _ i) 33 _ H1.out.1 ?_; intro wr2 hr2 hp2; have HB := Lib.hid (NodeAt.of_row hr2); have HM2 := Lib.hid (HM.out.step (hp2.q H1.out.2 (Nat.le_refl _))); obtain ⟨c0, c1, c2, c3, c4, c5, c6⟩ := nd_cells HB.out; clear hr2 hp2))
        | ((with_reducible refine gate 32 rfl ?_); go_loud (refine wpList_val rfl (load_id 7 (.tmp 31) rfl rfl HB.out.tree) ?_))
        | ((with_reducible refine gate 33 rfl ?_); go_loud (refine wpList_val rfl (run_build_rnode n A pn pc (.tmp 18) (.tmp 20) (.tmp 22) (.tmp 24) (.tmp 26) (.tmp 28) (.tmp 30) (.tmp 32) rfl rfl rfl rfl rfl rfl rfl rfl rfl _) ?_))
        | ((with_reducible refine gate 34 rfl ?_); go_loud (refine wpList_val rfl (run_row_rnode (.tmp 33) rfl n A pn pc rfl _) ?_))
        | ((with_reducible refine gate 35 rfl ?_); go_loud (refine wpList_append_agg rfl (.tmp 16) (.tmp 34) 29 rfl w0.heap.size 26 iN _ 39 120 Try.underlying29 hiN hzN0 hzN1 hzN2 rfl (by omega) _ ys.length (ndsL ys) rfl HM2.out.own (ndL n A pn pc) _ _ rfl rfl (ndL_len _ _ _ _) (ndL_one _ _ _ _) (by have := HLE.out; unfold maxLen; omega) (by have := HLE.out; omega) HM2.out.q.size ?_; intro v7 w7 hown7 hgr7 _; have HM7 := Lib.hid (HM2.out.push (z := ⟨n, A, pn, pc⟩) hgr7 hown7); clear hown7 hgr7)))
      go_roundw
      case rel => exact ⟨k + 1, by omega, by go_num, by rw [HTK.out]; exact HM7.out⟩
      case measure => simp [intOf]; omega
    · obtain rfl : nn = k := by omega
      have HR : Hid (zs.take nn = zs) := Lib.hid (List.take_of_length_le (by rw [HZ.out]; exact Nat.le_refl _))
      go_wp2_with fail
      go_ret
      exact ⟨_, rfl, by rw [← HR.out]; exact HM.out⟩
end
end Go.Proofs.Ytffenfhbiapefaa
