/- The walk through to: nodes with lists of their own. -/
import Derived.Test.YtffenfhbiapefaaNrw
import Derived.Deep.DeepCutAuto
namespace Go.Proofs.Ytffenfhbiapefaa
set_option linter.unusedVariables false
set_option linter.unusedSimpArgs false
open Go.RowKit

/-- What stands in the row v: nodes with lists of their own, made since world w0. -/
structure Made (w0 w : World) (e : TypeId) (v : Value) (outs : List NdIn) : Prop where
  own : w.ownsRow w0.heap.size e 39 v outs.length (ndsL outs)
  parts : ∀ z ∈ outs, Got w w0.heap.size (.slice z.A z.pn z.pc) z.pn (z.n.ids.flatMap gL) ∧ Far (.slice z.A z.pn z.pc) v
  q : Q w0 w
theorem Made.begin_ (w0 : World) (e : TypeId) : Made w0 w0 e (.slice none 0 0) [] := ⟨World.ownsRow_nil _ _ _ _, by simp, Q.refl _⟩
theorem Made.step {w0 w w' : World} {e : TypeId} {v : Value} {outs : List NdIn} (h : Made w0 w e v outs) (hq : Q w w') : Made w0 w' e v outs :=
  ⟨own_q h.own hq, fun z hz => ⟨(h.parts z hz).1.q hq, (h.parts z hz).2⟩, h.q.step hq⟩
theorem Made.push {w0 w w' : World} {e : TypeId} {v v' : Value} {outs : List NdIn} {z : NdIn} (h : Made w0 w e v outs) (hz : Got w w0.heap.size (.slice z.A z.pn z.pc) z.pn (z.n.ids.flatMap gL)) (hf : Far (.slice z.A z.pn z.pc) v) (hg : Grew w w' v v')
    (hown : w'.ownsRow w0.heap.size e 39 v' (outs.length + 1) (ndsL outs ++ ndL z.n z.A z.pn z.pc)) : Made w0 w' e v' (outs ++ [z]) := by
  refine ⟨by simpa [ndsL] using hown, fun y hy => ?_, hg.q h.q h.own⟩
  rcases List.mem_append.1 hy with hy | hy
  · exact ⟨(h.parts y hy).1.grew hg (h.parts y hy).2, (h.parts y hy).1.far hg (h.parts y hy).2⟩
  · obtain rfl := List.mem_singleton.1 hy
    exact ⟨hz.grew hg hf, hz.far hg hf⟩

set_option maxHeartbeats 16000000 in
set_option maxRecDepth 100000 in
theorem to_ok (A0 : Option Addr) (nn nc : Nat) (zs : List NdIn) (w0 : World) (hz : zs.length = nn) (hn : nn ≤ 10000) (h : NodesAt w0 A0 zs) (hpz : ∀ z ∈ zs, z.pn ≤ 4398046510976) :
    Calls Try.prog 10 #[.slice A0 nn nc] w0 fun e w' => ∃ v outs, e = .returned v ∧ Hid (Made w0 w' 33 v outs ∧ outs.map (fun z => (z.n, z.pn)) = zs.map fun z => (z.n, z.pn)) := by
  obtain ⟨iN, hiN, hzN0, hzN1, hzN2⟩ := info_parts infoN
  have HZ := Lib.hid hz
  have HN := Lib.hid h
  have HPZ := Lib.hid hpz
  clear hz h hpz
  go_enter Try.func10, Try.ntmps10
  go_wp2_with fail
  go_loopw [3, 4] (fun v i wr => ∃ k : Nat, k ≤ nn ∧ i = .int .i64 k ∧ Hid (∃ outs, Made w0 wr 33 v outs ∧ outs.map (fun z => (z.n, z.pn)) = (zs.take k).map fun z => (z.n, z.pn))) (fun _ i _ => nn - (intOf i).toNat)
  case atStart => exact ⟨0, by omega, rfl, [], Made.begin_ _ _, by simp⟩
  case round =>
    obtain ⟨k, hk, rfl, HM⟩ := hrel
    obtain ⟨wq, hwq⟩ : ∃ w, w = wr := ⟨_, rfl⟩
    subst hwq
    by_cases hlt : k < nn
    · obtain ⟨outs, hM, hO⟩ := HM.out
      have hkz : k < zs.length := by rw [HZ.out]; exact hlt
      obtain ⟨b, o, e1, hb, hat⟩ := (HN.out.q hM.q).at_ k hkz
      have hfit := HN.out.fit zs[k] (List.getElem_mem hkz)
      have hpa := HN.out.parts zs[k] (List.getElem_mem hkz)
      obtain ⟨n, hnn⟩ : ∃ n, n = zs[k].n := ⟨_, rfl⟩
      obtain ⟨A, hAA⟩ : ∃ n, n = zs[k].A := ⟨_, rfl⟩
      obtain ⟨pn, hpp⟩ : ∃ n, n = zs[k].pn := ⟨_, rfl⟩
      obtain ⟨pc, hpc⟩ : ∃ n, n = zs[k].pc := ⟨_, rfl⟩
      rw [← hnn, ← hAA, ← hpp, ← hpc] at hat
      rw [← hnn, ← hpp] at hfit
      rw [← hnn, ← hAA] at hpa
      have hpn : pn ≤ 4398046510976 := by rw [hpp]; exact HPZ.out _ (List.getElem_mem hkz)
      have HTK : Hid ((zs.take (k + 1)).map (fun z => (z.n, z.pn)) = (zs.take k).map (fun z => (z.n, z.pn)) ++ [(n, pn)]) := Lib.hid (by
        rw [List.take_succ_eq_append_getElem hkz, List.map_append, hnn, hpp]; rfl)
      have HLI : Hid ((n.ids.flatMap gL).length = pn * 32) := Lib.hid (by rw [flat_len n.ids (fun a _ => gL_len a), hfit.1.ids])
      have HPA : Hid (SeesP w0 (· < w0.heap.size) A (n.ids.flatMap gL)) := Lib.hid hpa
      have HM0 := Lib.hid hM
      have HO := Lib.hid hO
      have HAT := Lib.hid hat
      have HOL : Hid (outs.length = k) := Lib.hid (by
        have := congrArg List.length hO
        rw [List.length_map, List.length_map, List.length_take, HZ.out] at this
        omega)
      clear hnn hAA hpp hpc hM hO hat hfit hpa HM
      subst e1
      go_wp2_with (first
        | ((with_reducible refine gate 15 rfl ?_); go_loud (refine wpList_val rfl (load_rnode (.tmp 14) rfl rfl HAT.out) ?_))
        | ((with_reducible refine gate 5 rfl ?_); go_loud (refine wpList_alloc_row rfl 26 rfl _ (zeroRN _) 39 _ (ndC_size _ _ _ _) (ndC_get _ _ _ _) ?_; intro w1 hr1 hx1; have H1 := Lib.hid (And.intro hr1 (hx1.q (Q.refl _))); clear hr1 hx1))
        | ((with_reducible refine gate0 rfl ?_); go_loud (refine wpList_store_all rfl 26 (.tmp 5) (.tmp 15) rfl wq.heap.size rfl _ rfl 39 sizeR _ (nd_agg n A pn pc) (fun i _ => ndF_one _ _ _ _ i) 26 _ H1.out.1 ?_; intro wr2 hr2 hp2; have HB := Lib.hid hr2; have HQ2 : Hid (Q wq wr2) := Lib.hid (hp2.q H1.out.2 (Nat.le_refl _)); clear hr2 hp2)))
      simp only [Act.put, List.setIfInBounds_toArray, List.set_cons_succ, List.set_cons_zero]
      have HQw : Hid (Q w0 wr2) := Lib.hid (HM0.out.q.step HQ2.out)
      -- REGION
      refine wp_region_factsT 21 (of_decide_eq_true (by kernel_rfl)) (by kernel_rfl) (by kernel_rfl) (by kernel_rfl) (factsOf [.is (u3), .is (.pointer (some ⟨wq.heap.size, 0, none⟩)), .is (.string n.name), .is (.pointer (some ⟨wq.heap.size, 1, none⟩)), .is (.int .i64 n.kind), .is (.pointer (some ⟨wq.heap.size, 2, none⟩)), .is (.int .i64 n.mode), .is (.pointer (some ⟨wq.heap.size, 3, none⟩)), .is (.int .i64 n.time), .is (.pointer (some ⟨wq.heap.size, 4, none⟩)), .is (.int .i64 n.size), .is (.pointer (some ⟨wq.heap.size, 5, none⟩)), .is (.string n.target), .that (fun u w => ∃ g, u = .slice (some ⟨g, 0, none⟩) 0 0 ∧ wr2.heap.size ≤ g ∧ g < w.heap.size) (fun _ _ _ h hq => by obtain ⟨g, h1, h2, h3⟩ := h; exact ⟨g, h1, h2, Nat.lt_of_lt_of_le h3 hq.size⟩), .is (.pointer (some ⟨wq.heap.size, 6, none⟩)), .is (.slice A pn pc), .that (fun u w => Got w wr2.heap.size u pn (n.ids.flatMap gL)) (fun _ _ _ h hq => h.q hq), .is (.pointer (some ⟨wq.heap.size, 7, none⟩)), .is (.agg (arrO n.tree)), .that (fun u w => ∃ B c, u = .agg (ndC n B pn c) ∧ Got w wr2.heap.size (.slice B pn c) pn (n.ids.flatMap gL)) (fun _ _ _ h hq => by obtain ⟨B, c, h1, h2⟩ := h; exact ⟨B, c, h1, h2.q hq⟩), .that (fun u w => ∃ g B c, u = .slice (some ⟨g, 0, none⟩) 1 1 ∧ SeesP w (· < w.heap.size) (some ⟨g, 0, none⟩) (ndL n B pn c) ∧ Got w wr2.heap.size (.slice B pn c) pn (n.ids.flatMap gL)) (fun _ _ _ h hq => by obtain ⟨g, B, c, h1, h2, h3⟩ := h; exact ⟨g, B, c, h1, SeesP.on h2 hq, h3.q hq⟩)]) (factsOf_stays _) ?_ ?_
      · refine ⟨?_, ?_, ?_, ?_, ?_, ?_, ?_, ?_, ?_, ?_, ?_, ?_, ?_, ?_, ?_, ?_, ?_, ?_, ?_, ?_, ?_, trivial⟩
        · intro ax wx hq hfr hd
          have f3 : ax.tmps.getD 3 undef = u3 := (hfr 3 (by kernel_rfl)).trans rfl
          have e3 := (getD_form _ _).symm.trans f3
          exact .inl ⟨wanted_free rfl, OpDoes.run (v := u3) (w' := wx) (by unfold execOp; simp only [Act.eval, f3, Sem.run_pure]) ⟨Below.refl _ _, rfl⟩⟩
        · intro ax wx hq hfr hd
          have f5 : ax.tmps.getD 5 undef = .pointer (some ⟨wq.heap.size, 0, none⟩) := (hfr 5 (by kernel_rfl)).trans rfl
          have e5 := (getD_form _ _).symm.trans f5
          exact .inl ⟨wanted_free rfl, OpDoes.run (v := .pointer (some ⟨wq.heap.size, 0, none⟩)) (w' := wx) (by unfold execOp; simp [go_sem, Act.eval, e5]) ⟨Below.refl _ _, rfl⟩⟩
        · intro ax wx hq hfr hd
          have f17 : ax.tmps.getD 17 undef = .pointer (some ⟨wq.heap.size, 0, none⟩) := hd 1 (by kernel_rfl) _ _ rfl rfl
          have e17 := (getD_form _ _).symm.trans f17
          have hc := (NodeAt.of_row (row_q hq HB.out)).name
          exact .inl ⟨wanted_free rfl, OpDoes.run (v := .string n.name) (w' := wx) (by unfold execOp; simp [go_sem, Act.eval, e17, hc]) ⟨Below.refl _ _, rfl⟩⟩
        · intro ax wx hq hfr hd
          have f5 : ax.tmps.getD 5 undef = .pointer (some ⟨wq.heap.size, 0, none⟩) := (hfr 5 (by kernel_rfl)).trans rfl
          have e5 := (getD_form _ _).symm.trans f5
          exact .inl ⟨wanted_free rfl, OpDoes.run (v := .pointer (some ⟨wq.heap.size, 1, none⟩)) (w' := wx) (by unfold execOp; simp [go_sem, Act.eval, e5]) ⟨Below.refl _ _, rfl⟩⟩
        · intro ax wx hq hfr hd
          have f19 : ax.tmps.getD 19 undef = .pointer (some ⟨wq.heap.size, 1, none⟩) := hd 3 (by kernel_rfl) _ _ rfl rfl
          have e19 := (getD_form _ _).symm.trans f19
          have hc := (NodeAt.of_row (row_q hq HB.out)).kind
          exact .inl ⟨wanted_free rfl, OpDoes.run (v := .int .i64 n.kind) (w' := wx) (by unfold execOp; simp [go_sem, Act.eval, e19, hc]) ⟨Below.refl _ _, rfl⟩⟩
        · intro ax wx hq hfr hd
          have f5 : ax.tmps.getD 5 undef = .pointer (some ⟨wq.heap.size, 0, none⟩) := (hfr 5 (by kernel_rfl)).trans rfl
          have e5 := (getD_form _ _).symm.trans f5
          exact .inl ⟨wanted_free rfl, OpDoes.run (v := .pointer (some ⟨wq.heap.size, 2, none⟩)) (w' := wx) (by unfold execOp; simp [go_sem, Act.eval, e5]) ⟨Below.refl _ _, rfl⟩⟩
        · intro ax wx hq hfr hd
          have f21 : ax.tmps.getD 21 undef = .pointer (some ⟨wq.heap.size, 2, none⟩) := hd 5 (by kernel_rfl) _ _ rfl rfl
          have e21 := (getD_form _ _).symm.trans f21
          have hc := (NodeAt.of_row (row_q hq HB.out)).mode
          exact .inl ⟨wanted_free rfl, OpDoes.run (v := .int .i64 n.mode) (w' := wx) (by unfold execOp; simp [go_sem, Act.eval, e21, hc]) ⟨Below.refl _ _, rfl⟩⟩
        · intro ax wx hq hfr hd
          have f5 : ax.tmps.getD 5 undef = .pointer (some ⟨wq.heap.size, 0, none⟩) := (hfr 5 (by kernel_rfl)).trans rfl
          have e5 := (getD_form _ _).symm.trans f5
          exact .inl ⟨wanted_free rfl, OpDoes.run (v := .pointer (some ⟨wq.heap.size, 3, none⟩)) (w' := wx) (by unfold execOp; simp [go_sem, Act.eval, e5]) ⟨Below.refl _ _, rfl⟩⟩
        · intro ax wx hq hfr hd
          have f23 : ax.tmps.getD 23 undef = .pointer (some ⟨wq.heap.size, 3, none⟩) := hd 7 (by kernel_rfl) _ _ rfl rfl
          have e23 := (getD_form _ _).symm.trans f23
          have hc := (NodeAt.of_row (row_q hq HB.out)).time
          exact .inl ⟨wanted_free rfl, OpDoes.run (v := .int .i64 n.time) (w' := wx) (by unfold execOp; simp [go_sem, Act.eval, e23, hc]) ⟨Below.refl _ _, rfl⟩⟩
        · intro ax wx hq hfr hd
          have f5 : ax.tmps.getD 5 undef = .pointer (some ⟨wq.heap.size, 0, none⟩) := (hfr 5 (by kernel_rfl)).trans rfl
          have e5 := (getD_form _ _).symm.trans f5
          exact .inl ⟨wanted_free rfl, OpDoes.run (v := .pointer (some ⟨wq.heap.size, 4, none⟩)) (w' := wx) (by unfold execOp; simp [go_sem, Act.eval, e5]) ⟨Below.refl _ _, rfl⟩⟩
        · intro ax wx hq hfr hd
          have f25 : ax.tmps.getD 25 undef = .pointer (some ⟨wq.heap.size, 4, none⟩) := hd 9 (by kernel_rfl) _ _ rfl rfl
          have e25 := (getD_form _ _).symm.trans f25
          have hc := (NodeAt.of_row (row_q hq HB.out)).size
          exact .inl ⟨wanted_free rfl, OpDoes.run (v := .int .i64 n.size) (w' := wx) (by unfold execOp; simp [go_sem, Act.eval, e25, hc]) ⟨Below.refl _ _, rfl⟩⟩
        · intro ax wx hq hfr hd
          have f5 : ax.tmps.getD 5 undef = .pointer (some ⟨wq.heap.size, 0, none⟩) := (hfr 5 (by kernel_rfl)).trans rfl
          have e5 := (getD_form _ _).symm.trans f5
          exact .inl ⟨wanted_free rfl, OpDoes.run (v := .pointer (some ⟨wq.heap.size, 5, none⟩)) (w' := wx) (by unfold execOp; simp [go_sem, Act.eval, e5]) ⟨Below.refl _ _, rfl⟩⟩
        · intro ax wx hq hfr hd
          have f27 : ax.tmps.getD 27 undef = .pointer (some ⟨wq.heap.size, 5, none⟩) := hd 11 (by kernel_rfl) _ _ rfl rfl
          have e27 := (getD_form _ _).symm.trans f27
          have hc := (NodeAt.of_row (row_q hq HB.out)).target
          exact .inl ⟨wanted_free rfl, OpDoes.run (v := .string n.target) (w' := wx) (by unfold execOp; simp [go_sem, Act.eval, e27, hc]) ⟨Below.refl _ _, rfl⟩⟩
        · intro ax wx hq hfr hd
          exact .inl ⟨wanted_free rfl, OpDoes.run (v := .slice (some ⟨wx.heap.size, 0, none⟩) 0 0) (w' := wx.alloc (.cells #[] 24)) (run_row_noid rfl wx) ⟨(Q.refl wx).alloc _, ⟨_, rfl, hq.size, by simp⟩⟩⟩
        · intro ax wx hq hfr hd
          have f5 : ax.tmps.getD 5 undef = .pointer (some ⟨wq.heap.size, 0, none⟩) := (hfr 5 (by kernel_rfl)).trans rfl
          have e5 := (getD_form _ _).symm.trans f5
          exact .inl ⟨wanted_free rfl, OpDoes.run (v := .pointer (some ⟨wq.heap.size, 6, none⟩)) (w' := wx) (by unfold execOp; simp [go_sem, Act.eval, e5]) ⟨Below.refl _ _, rfl⟩⟩
        · intro ax wx hq hfr hd
          have f30 : ax.tmps.getD 30 undef = .pointer (some ⟨wq.heap.size, 6, none⟩) := hd 14 (by kernel_rfl) _ _ rfl rfl
          have e30 := (getD_form _ _).symm.trans f30
          have hc := (NodeAt.of_row (row_q hq HB.out)).parts
          exact .inl ⟨wanted_free rfl, OpDoes.run (v := .slice A pn pc) (w' := wx) (by unfold execOp; simp [go_sem, Act.eval, e30, hc]) ⟨Below.refl _ _, rfl⟩⟩
        · intro ax wx hq hfr hd
          have h29 : (fun u w => ∃ g, u = .slice (some ⟨g, 0, none⟩) 0 0 ∧ wr2.heap.size ≤ g ∧ g < w.heap.size) (ax.tmps.getD 29 undef) wx := hd 13 (by kernel_rfl) _ _ rfl rfl
          have f31 : ax.tmps.getD 31 undef = .slice A pn pc := hd 15 (by kernel_rfl) _ _ rfl rfl
          have e31 := (getD_form _ _).symm.trans f31
          obtain ⟨g, q1, q2, q3⟩ := h29
          obtain ⟨u, w', hr, hq', hgot⟩ := run_append_got 22 q2 q3 hq.size (· < w0.heap.size) A pn pc (n.ids.flatMap gL) HLI.out (HPA.out.below (HQw.out.step hq)) hpn
          exact .inl ⟨wanted_free rfl, OpDoes.run (v := u) (w' := w') (by unfold execOp; simp only [resolve, invoke, builtin, Sem.run_bind, Sem.run_pure, Result.andThen_ok, List.map_toArray, List.map_cons, List.map_nil, Act.eval, q1, f31, hr]) ⟨hq', hgot⟩⟩
        · intro ax wx hq hfr hd
          have f5 : ax.tmps.getD 5 undef = .pointer (some ⟨wq.heap.size, 0, none⟩) := (hfr 5 (by kernel_rfl)).trans rfl
          have e5 := (getD_form _ _).symm.trans f5
          exact .inl ⟨wanted_free rfl, OpDoes.run (v := .pointer (some ⟨wq.heap.size, 7, none⟩)) (w' := wx) (by unfold execOp; simp [go_sem, Act.eval, e5]) ⟨Below.refl _ _, rfl⟩⟩
        · intro ax wx hq hfr hd
          have f33 : ax.tmps.getD 33 undef = .pointer (some ⟨wq.heap.size, 7, none⟩) := hd 17 (by kernel_rfl) _ _ rfl rfl
          have e33 := (getD_form _ _).symm.trans f33
          exact .inl ⟨wanted_free rfl, OpDoes.run (v := .agg (arrO n.tree)) (w' := wx) (load_id 7 (.tmp 33) rfl f33 (NodeAt.of_row (row_q hq HB.out)).tree) ⟨Below.refl _ _, rfl⟩⟩
        · intro ax wx hq hfr hd
          have f18 : ax.tmps.getD 18 undef = .string n.name := hd 2 (by kernel_rfl) _ _ rfl rfl
          have e18 := (getD_form _ _).symm.trans f18
          have f20 : ax.tmps.getD 20 undef = .int .i64 n.kind := hd 4 (by kernel_rfl) _ _ rfl rfl
          have e20 := (getD_form _ _).symm.trans f20
          have f22 : ax.tmps.getD 22 undef = .int .i64 n.mode := hd 6 (by kernel_rfl) _ _ rfl rfl
          have e22 := (getD_form _ _).symm.trans f22
          have f24 : ax.tmps.getD 24 undef = .int .i64 n.time := hd 8 (by kernel_rfl) _ _ rfl rfl
          have e24 := (getD_form _ _).symm.trans f24
          have f26 : ax.tmps.getD 26 undef = .int .i64 n.size := hd 10 (by kernel_rfl) _ _ rfl rfl
          have e26 := (getD_form _ _).symm.trans f26
          have f28 : ax.tmps.getD 28 undef = .string n.target := hd 12 (by kernel_rfl) _ _ rfl rfl
          have e28 := (getD_form _ _).symm.trans f28
          have h32 : (fun u w => Got w wr2.heap.size u pn (n.ids.flatMap gL)) (ax.tmps.getD 32 undef) wx := hd 16 (by kernel_rfl) _ _ rfl rfl
          have f34 : ax.tmps.getD 34 undef = .agg (arrO n.tree) := hd 18 (by kernel_rfl) _ _ rfl rfl
          have e34 := (getD_form _ _).symm.trans f34
          obtain ⟨B, c, q1, q2⟩ := h32
          exact .inl ⟨wanted_free rfl, OpDoes.run (v := .agg (ndC n B pn c)) (w' := wx) (run_build_node n B pn c (.tmp 18) (.tmp 20) (.tmp 22) (.tmp 24) (.tmp 26) (.tmp 28) (.tmp 32) (.tmp 34) rfl f18 f20 f22 f24 f26 f28 q1 f34 wx) ⟨Below.refl _ _, ⟨B, c, rfl, by rw [← q1]; exact ⟨B, c, q1, q2⟩⟩⟩⟩
        · intro ax wx hq hfr hd
          have h35 : (fun u w => ∃ B c, u = .agg (ndC n B pn c) ∧ Got w wr2.heap.size (.slice B pn c) pn (n.ids.flatMap gL)) (ax.tmps.getD 35 undef) wx := hd 19 (by kernel_rfl) _ _ rfl rfl
          obtain ⟨B, c, q1, q2⟩ := h35
          exact .inl ⟨wanted_free rfl, OpDoes.run (v := .slice (some ⟨wx.heap.size, 0, none⟩) 1 1) (w' := wx.alloc (.cells (ndL n B pn c).toArray 33)) (run_row_node (.tmp 35) rfl n B pn c q1 wx) ⟨(Q.refl wx).alloc _, ⟨wx.heap.size, B, c, rfl, (SeesP.new wx (ndL n B pn c) _).more (fun b hb => by simpa using hb), q2.q ((Q.refl wx).alloc _)⟩⟩⟩
      · intro us wx hq hf
        have f16 : us 16 = u3 := hf 0 _ _ (by omega) rfl rfl
        have h36 : (fun u w => ∃ g B c, u = .slice (some ⟨g, 0, none⟩) 1 1 ∧ SeesP w (· < w.heap.size) (some ⟨g, 0, none⟩) (ndL n B pn c) ∧ Got w wr2.heap.size (.slice B pn c) pn (n.ids.flatMap gL)) (us 36) wx := hf 20 _ _ (by omega) rfl rfl
        have HQX := Lib.hid hq
        clear hf hq
        simp only [List.drop_succ_cons, List.drop_zero, List.take_succ_cons, List.take_zero, fillSlots, List.setIfInBounds_toArray, List.set_cons_succ, List.set_cons_zero, f16]
        clear f16
      -- DNE
        obtain ⟨g36, B, c, q1, q2, q3⟩ := h36
        have HS36 := Lib.hid q2
        have HG36 := Lib.hid q3
        have HMx := Lib.hid (HM0.out.step (HQ2.out.step HQX.out))
        have hfar : Far (.slice B pn c) u3 := fun b hb hv => by
          have h1 := own_lt HM0.out.own b hv
          obtain ⟨_, _, _, _, _, h3⟩ := HG36.out
          have h2 := (h3 b hb).1
          have := HQ2.out.size
          omega
        simp only [q1]
        clear q1 q2 q3
        go_wp2_with ((with_reducible refine gate 37 rfl ?_); go_loud (refine wpList_append_st rfl (.tmp 16) (.tmp 36) 27 rfl w0.heap.size 33 iN _ 39 120 Try.underlying27 hiN hzN0 hzN1 hzN2 rfl (by omega) _ outs.length (ndsL outs) rfl HMx.out.own (ndL n B pn c) (· < wx.heap.size) g36 1 rfl (by rw [ndL_len]) HS36.out (ndL_one _ _ _ _) (by rw [HOL.out]; unfold maxLen; omega) (by rw [HOL.out]; omega) HMx.out.q.size ?_; intro v7 w7 hown7 hgr7; have HM7 := Lib.hid (HMx.out.push (z := ⟨n, B, pn, c⟩) (by obtain ⟨D, cc, e1, e2, e3, e4⟩ := HG36.out; exact ⟨D, cc, e1, e2, e3, fun b hb => ⟨by have := (e4 b hb).1; have := HQw.out.size; omega, (e4 b hb).2⟩⟩) hfar hgr7 hown7); clear hown7 hgr7))
        go_roundw
        case rel => exact ⟨k + 1, by omega, by go_num, _, HM7.out, by rw [List.map_append, HO.out, HTK.out]; rfl⟩
        case measure => simp [intOf]; omega
    · obtain rfl : nn = k := by omega
      obtain ⟨outs, hM, hO⟩ := HM.out
      have HM0 := Lib.hid hM
      have HO := Lib.hid hO
      rw [List.take_of_length_le (by rw [HZ.out]; exact Nat.le_refl _)] at HO
      clear hM hO HM
      go_wp2_with fail
      go_ret
      exact ⟨_, outs, rfl, HM0.out, HO.out⟩
end Go.Proofs.Ytffenfhbiapefaa
