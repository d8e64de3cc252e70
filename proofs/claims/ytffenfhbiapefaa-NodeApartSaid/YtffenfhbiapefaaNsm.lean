/- The walk through Same: rows of the same nodes are the same. -/
import Derived.Test.YtffenfhbiapefaaNfw
import Derived.Test.YtffenfhbiapefaaRegz
namespace Go.Proofs.Ytffenfhbiapefaa
set_option linter.unusedVariables false
set_option linter.unusedSimpArgs false
open Go.RowKit

theorem run_neq_id_same (op : Oper) (L : List Nat) (hl : L.length = 32) (ρ : Operand → Value) (x y : Operand) (t : TypeId) (ho : op.op = .binOp .neq 24 x y t) (hx : ρ x = .agg (arrO L)) (hy : ρ y = .agg (arrO L)) (w : World) : (execOp ρ op).run Try.prog w = .ok (.value (.bool false)) w := by
  rw [run_neq_id op L L hl hl ρ x y t ho hx hy w, decide_eq_true rfl]; rfl
theorem ids_at {w : World} {A : Option Addr} {ids : List (List Nat)} (hs : SeesP w (· < w.heap.size) A (ids.flatMap gL)) (k : Nat) (hk : k < ids.length) : ∃ b o, A = some ⟨b, o, none⟩ ∧ b < w.heap.size ∧ ∀ i, i < 32 → w.cell? ⟨b, o + k * 32 + i, none⟩ = some (arrF ids[k] i) := by
  obtain ⟨b, o, e1, hb, hat⟩ := hs (by intro h0; have := flat_len ids (f := gL) (fun a _ => gL_len a); rw [h0] at this; simp at this; omega)
  exact ⟨b, o, e1, hb, ids_cell (ok := (· < w.heap.size)) hat k hk⟩
/-- Two boxes of a region that draws its order: made, filled. -/
structure TwoB (wB : World) (T : TypeId) (fx fy : Nat → Value) (b8 b9 b10 b11 : Bool) (u6 u7 : Value) (w : World) : Prop where
  q : Q wB w
  x : b8 = true → ∃ g, u6 = .pointer (some ⟨g, 0, none⟩) ∧ wB.heap.size ≤ g ∧ w.rowIs g T 39 (if b10 then fx else ndF noNd none 0 0)
  y : b9 = true → ∃ g, u7 = .pointer (some ⟨g, 0, none⟩) ∧ wB.heap.size ≤ g ∧ w.rowIs g T 39 (if b11 then fy else ndF noNd none 0 0)
  ne : b8 = true → b9 = true → u6 ≠ u7
section
variable {wB w : World} {T : TypeId} {fx fy : Nat → Value} {b8 b9 b10 b11 : Bool} {u6 u7 : Value}
theorem zero_rowN (w : World) (T : TypeId) : (w.alloc (.cells (ndC noNd none 0 0) T)).rowIs w.heap.size T 39 (ndF noNd none 0 0) := by
  have h := World.rowIs_alloc w (ndC noNd none 0 0) T (ndF noNd none 0 0) (by rw [ndC_size]; exact ndC_get _ _ _ _)
  rw [ndC_size] at h; exact h
theorem TwoB.a6 (h : TwoB wB T fx fy b8 b9 false b11 u6 u7 w) : TwoB wB T fx fy true b9 false b11 (.pointer (some ⟨w.heap.size, 0, none⟩)) u7 (w.alloc (.cells (ndC noNd none 0 0) T)) := by
  refine ⟨h.q.alloc _, fun _ => ⟨_, rfl, h.q.size, zero_rowN w T⟩, fun h9 => ?_, fun _ h9 e => ?_⟩
  · obtain ⟨g, e, hg, hr⟩ := h.y h9
    exact ⟨g, e, hg, row_q ((Q.refl w).alloc _) hr⟩
  · obtain ⟨g, e2, hg, hr⟩ := h.y h9
    rw [e2] at e
    injection e with e; injection e with e; injection e with e
    have := hr.lt; omega
theorem TwoB.a7 (h : TwoB wB T fx fy b8 b9 b10 false u6 u7 w) : TwoB wB T fx fy b8 true b10 false u6 (.pointer (some ⟨w.heap.size, 0, none⟩)) (w.alloc (.cells (ndC noNd none 0 0) T)) := by
  refine ⟨h.q.alloc _, fun h8 => ?_, fun _ => ⟨_, rfl, h.q.size, zero_rowN w T⟩, fun h8 _ e => ?_⟩
  · obtain ⟨g, e, hg, hr⟩ := h.x h8
    exact ⟨g, e, hg, row_q ((Q.refl w).alloc _) hr⟩
  · obtain ⟨g, e2, hg, hr⟩ := h.x h8
    rw [e2] at e
    injection e with e; injection e with e; injection e with e
    have := hr.lt; omega
theorem run_alloc_rn {a : Act} {o : Oper} (ho : o.op = .alloc 26) (w : World) : (execOp a.eval o).run Try.prog w = .ok (.value (.pointer (some ⟨w.heap.size, 0, none⟩))) (w.alloc (.cells (ndC noNd none 0 0) 26)) := by
  unfold execOp
  simp only [ho, Instr.alloc, newVar, newRow, Sem.run_bind, zeroRN, Result.andThen_ok, Sem.run_pure, run_newObj_alloc]
  rfl
theorem OpDoes.skip {P : Program} {o : Oper} {a : Act} {w w' : World} {Post : Value → World → Prop} (hr : (execOp a.eval o).run P w = .ok .skip w') (h : Post undef w') : OpDoes P o a w Post := fun K Q hK => by
  unfold Oper.wp; rw [hr]; exact hK undef w' h
theorem store_rn {a : Act} {o : Oper} {n : Nd} {A : Option Addr} {pn pc : Nat} {f : Nat → Value} (ad x : Operand) (ho : o.op = .store 26 ad x) (g : Nat) (had : a.eval ad = .pointer (some ⟨g, 0, none⟩)) (hx : a.eval x = .agg (ndC n A pn pc)) (w : World) (hr : w.rowIs g 26 39 f) :
    ∃ w', (execOp a.eval o).run Try.prog w = .ok .skip w' ∧ w'.rowIs g 26 39 (ndF n A pn pc) ∧ Put g w w' := by
  obtain ⟨w', hrun, hrow, hput⟩ := run_storeVar_agg (P := Try.prog) (w := w) g 0 26 26 39 sizeR _ (ndF n A pn pc) (nd_agg n A pn pc) (fun i _ => ndF_one _ _ _ _ i) 39 f hr (by omega)
  refine ⟨w', ?_, hrow.congr fun i hi => by rw [if_pos ⟨Nat.zero_le _, by omega⟩]; rfl, hput⟩
  unfold execOp
  simp only [ho, had, hx, Instr.storeAt, Instr.sureAddr, Sem.run_bind, Sem.run_pure, Result.andThen_ok, hrun]
theorem does_store_rn {a : Act} {o : Oper} {n : Nd} {A : Option Addr} {pn pc : Nat} {f : Nat → Value} {Post : Value → World → Prop} (ad x : Operand) (ho : o.op = .store 26 ad x) (g : Nat) (had : a.eval ad = .pointer (some ⟨g, 0, none⟩)) (hx : a.eval x = .agg (ndC n A pn pc)) {w : World} (hr : w.rowIs g 26 39 f)
    (h : ∀ w', w'.rowIs g 26 39 (ndF n A pn pc) → Put g w w' → Post undef w') : OpDoes Try.prog o a w Post := by
  obtain ⟨w', h1, h2, h3⟩ := store_rn ad x ho g had hx w hr
  exact OpDoes.skip h1 (h w' h2 h3)
def factsZ (fs : List (Option Value)) (i : Nat) (u : Value) : Prop := match fs.getD i none with | none => True | some v => u = v
end
set_option maxHeartbeats 16000000 in
set_option maxRecDepth 100000 in
theorem refSame_ok (A1 A2 : Option Addr) (nn c1 c2 : Nat) (xs ys : List NdIn) (w : World) (hx : xs.length = nn) (he : xs.map (·.n) = ys.map (·.n)) (hn : nn ≤ 9223372036854775807) (h1 : NodesAt w A1 xs) (h2 : NodesAt w A2 ys) :
    Calls Try.prog 19 #[.slice A1 nn c1, .slice A2 nn c2] w fun e w' => e = .returned (.bool true) ∧ Hid (Q w w') := by
  have HX := Lib.hid hx
  have HE := Lib.hid he
  have HY : Hid (ys.length = nn) := Lib.hid (by have := congrArg List.length he; simp at this; omega)
  have HN1 := Lib.hid h1
  have HN2 := Lib.hid h2
  clear hx he h1 h2
  go_enter Try.func19, Try.ntmps19
  go_wp2_with fail
  go_loopw [5] (fun i wr => ∃ k : Nat, k ≤ nn ∧ i = .int .i64 k ∧ Hid (Q w wr)) (fun i _ => nn - (intOf i).toNat)
  case atStart => exact ⟨0, by omega, rfl, Q.refl w⟩
  case round =>
    obtain ⟨k, hk, rfl, HQr⟩ := hrel
    obtain ⟨wq, hwq⟩ : ∃ w, w = wr := ⟨_, rfl⟩
    subst hwq
    by_cases hlt : k < nn
    · have hk1 : k < xs.length := by rw [HX.out]; exact hlt
      have hk2 : k < ys.length := by rw [HY.out]; exact hlt
      obtain ⟨b1, o1, e1, hb1, hat1⟩ := (HN1.out.q HQr.out).at_ k hk1
      obtain ⟨b2, o2, e2, hb2, hat2⟩ := (HN2.out.q HQr.out).at_ k hk2
      have hp1 := (HN1.out.q HQr.out).parts xs[k] (List.getElem_mem hk1)
      have hp2 := (HN2.out.q HQr.out).parts ys[k] (List.getElem_mem hk2)
      have hf1 := HN1.out.fit xs[k] (List.getElem_mem hk1)
      have hf2 := HN2.out.fit ys[k] (List.getElem_mem hk2)
      have hen : ys[k].n = xs[k].n := by
        have h1 : (xs.map (·.n))[k]? = (ys.map (·.n))[k]? := by rw [HE.out]
        rw [List.getElem?_map, List.getElem?_map, List.getElem?_eq_getElem hk1, List.getElem?_eq_getElem hk2] at h1
        exact (Option.some.inj h1).symm
      generalize xs[k] = x at *
      generalize ys[k] = y at *
      obtain ⟨n, A, pn, pc⟩ := x
      obtain ⟨n2, B, qn, qc⟩ := y
      simp only at hat1 hat2 hp1 hp2 hf1 hf2 hen
      subst hen
      have hqn : qn = pn := by rw [← hf1.1.ids, hf2.1.ids]
      subst hqn
      have HPL : Hid (n2.ids.length = qn) := Lib.hid hf1.1.ids
      have HT : Hid (n2.tree.length = 32) := Lib.hid hf1.1.tree
      have HID : Hid (∀ i ∈ n2.ids, i.length = 32) := Lib.hid fun i hi => (hf1.2.2.1 i hi).1
      have hqmax := hf1.1.max
      have HP1 := Lib.hid hp1
      have HP2 := Lib.hid hp2
      have HAT1 := Lib.hid hat1
      have HAT2 := Lib.hid hat2
      have HB1 := Lib.hid hb1
      have HB2 := Lib.hid hb2
      clear hat1 hat2 hp1 hp2 hf1 hf2 hk1 hk2 hb1 hb2
      subst e1 e2
      have hki : (k : Int) < nn := by omega
      go_wp2_with fail
      -- REGION
      have HJ0 : Hid (TwoB wq 26 (ndF n2 A qn pc) (ndF n2 B qn qc) false false false false u6 u7 wq.drew) := Lib.hid ⟨(Q.refl wq).drew, (fun h => by cases h), (fun h => by cases h), (fun h => by cases h)⟩
      refine wp_region_factsZ (by kernel_rfl) (by kernel_rfl) (fun L t w => TwoB wq 26 (ndF n2 A qn pc) (ndF n2 B qn qc) (L 8) (L 9) (L 10) (L 11) (t 6) (t 7) w) (factsZ [some (.slice (some ⟨b1, o1, none⟩) nn c1), some (.int .i64 (k : Int)), some (.pointer (some ⟨b1, o1 + k * 39, none⟩)), some (.agg (ndC n2 A qn pc)), some (.slice (some ⟨b2, o2, none⟩) nn c2), some (.int .i64 (k : Int)), some (.pointer (some ⟨b2, o2 + k * 39, none⟩)), some (.agg (ndC n2 B qn qc)), none, none, none, none]) HJ0.out ?_ ?_
      · refine ⟨?_, ?_, ?_, ?_, ?_, ?_, ?_, ?_, ?_, ?_, ?_, ?_, trivial⟩
        · intro ax wx L hj hdl hgl hfr hd
          have f0 : ax.tmps.getD 0 undef = .slice (some ⟨b1, o1, none⟩) nn c1 := (hfr 0 (by kernel_rfl)).trans rfl
          exact ⟨wanted_free rfl, OpDoes.run (v := .slice (some ⟨b1, o1, none⟩) nn c1) (w' := wx) (by unfold execOp; simp only [Act.eval, f0, Sem.run_pure]) ⟨hj, rfl⟩⟩
        · intro ax wx L hj hdl hgl hfr hd
          have f5 : ax.tmps.getD 5 undef = .int .i64 (k : Int) := (hfr 5 (by kernel_rfl)).trans rfl
          exact ⟨wanted_free rfl, OpDoes.run (v := .int .i64 (k : Int)) (w' := wx) (by unfold execOp; simp only [Act.eval, f5, Sem.run_pure]) ⟨hj, rfl⟩⟩
        · intro ax wx L hj hdl hgl hfr hd
          have f20 : ax.tmps.getD 20 undef = .slice (some ⟨b1, o1, none⟩) nn c1 := hd 0 (by kernel_rfl) _ _ rfl rfl
          have f21 : ax.tmps.getD 21 undef = .int .i64 (k : Int) := hd 1 (by kernel_rfl) _ _ rfl rfl
          have e20 := (getD_form _ _).symm.trans f20
          have e21 := (getD_form _ _).symm.trans f21
          exact ⟨wanted_free rfl, OpDoes.run (v := .pointer (some ⟨b1, o1 + k * 39, none⟩)) (w' := wx) (by unfold execOp; simp [go_sem, Act.eval, e20, e21, add_addr, hki]) ⟨hj, rfl⟩⟩
        · intro ax wx L hj hdl hgl hfr hd
          have f22 : ax.tmps.getD 22 undef = .pointer (some ⟨b1, o1 + k * 39, none⟩) := hd 2 (by kernel_rfl) _ _ rfl rfl
          exact ⟨wanted_free rfl, OpDoes.run (v := .agg (ndC n2 A qn pc)) (w' := wx) (load_rnode (.tmp 22) rfl f22 (fun i hi => (hj.q.cell (p := ⟨b1, o1 + k * 39 + i, none⟩) HB1.out).trans (HAT1.out i hi))) ⟨hj, rfl⟩⟩
        · intro ax wx L hj hdl hgl hfr hd
          have f1 : ax.tmps.getD 1 undef = .slice (some ⟨b2, o2, none⟩) nn c2 := (hfr 1 (by kernel_rfl)).trans rfl
          exact ⟨wanted_free rfl, OpDoes.run (v := .slice (some ⟨b2, o2, none⟩) nn c2) (w' := wx) (by unfold execOp; simp only [Act.eval, f1, Sem.run_pure]) ⟨hj, rfl⟩⟩
        · intro ax wx L hj hdl hgl hfr hd
          have f5 : ax.tmps.getD 5 undef = .int .i64 (k : Int) := (hfr 5 (by kernel_rfl)).trans rfl
          exact ⟨wanted_free rfl, OpDoes.run (v := .int .i64 (k : Int)) (w' := wx) (by unfold execOp; simp only [Act.eval, f5, Sem.run_pure]) ⟨hj, rfl⟩⟩
        · intro ax wx L hj hdl hgl hfr hd
          have f24 : ax.tmps.getD 24 undef = .slice (some ⟨b2, o2, none⟩) nn c2 := hd 4 (by kernel_rfl) _ _ rfl rfl
          have f25 : ax.tmps.getD 25 undef = .int .i64 (k : Int) := hd 5 (by kernel_rfl) _ _ rfl rfl
          have e24 := (getD_form _ _).symm.trans f24
          have e25 := (getD_form _ _).symm.trans f25
          exact ⟨wanted_free rfl, OpDoes.run (v := .pointer (some ⟨b2, o2 + k * 39, none⟩)) (w' := wx) (by unfold execOp; simp [go_sem, Act.eval, e24, e25, add_addr, hki]) ⟨hj, rfl⟩⟩
        · intro ax wx L hj hdl hgl hfr hd
          have f26 : ax.tmps.getD 26 undef = .pointer (some ⟨b2, o2 + k * 39, none⟩) := hd 6 (by kernel_rfl) _ _ rfl rfl
          exact ⟨wanted_free rfl, OpDoes.run (v := .agg (ndC n2 B qn qc)) (w' := wx) (load_rnode (.tmp 26) rfl f26 (fun i hi => (hj.q.cell (p := ⟨b2, o2 + k * 39 + i, none⟩) HB2.out).trans (HAT2.out i hi))) ⟨hj, rfl⟩⟩
        · intro ax wx L hj hdl hgl hfr hd
          have h10 : L 10 = false := hgl 10 _ rfl (by kernel_rfl)
          have hj2 : TwoB wq 26 (ndF n2 A qn pc) (ndF n2 B qn qc) (L 8) (L 9) false (L 11) (ax.tmps.getD 6 undef) (ax.tmps.getD 7 undef) wx := h10 ▸ hj
          have hj3 := hj2.a6
          rw [← h10] at hj3
          exact ⟨wanted_free rfl, OpDoes.run (run_alloc_rn rfl wx) ⟨hj3, trivial⟩⟩
        · intro ax wx L hj hdl hgl hfr hd
          have h11 : L 11 = false := hgl 11 _ rfl (by kernel_rfl)
          have hj2 : TwoB wq 26 (ndF n2 A qn pc) (ndF n2 B qn qc) (L 8) (L 9) (L 10) false (ax.tmps.getD 6 undef) (ax.tmps.getD 7 undef) wx := h11 ▸ hj
          have hj3 := hj2.a7
          rw [← h11] at hj3
          exact ⟨wanted_free rfl, OpDoes.run (run_alloc_rn rfl wx) ⟨hj3, trivial⟩⟩
        · intro ax wx L hj hdl hgl hfr hd
          have h8 : L 8 = true := hdl 8 (by kernel_rfl)
          have h9 : L 9 = true := hdl 9 (by kernel_rfl)
          obtain ⟨g, q1, q2, q3⟩ := hj.x h8
          obtain ⟨g2, p1, p2, p3⟩ := hj.y h9
          have hne : g2 ≠ g := fun e => hj.ne h8 h9 (by rw [q1, p1, e])
          have f23 : ax.tmps.getD 23 undef = .agg (ndC n2 A qn pc) := hd 3 (by kernel_rfl) _ _ rfl rfl
          exact ⟨wanted_free rfl, does_store_rn (.tmp 6) (.tmp 23) rfl g q1 f23 q3 fun w' hrow hput => ⟨⟨hput.q hj.q q2, fun _ => ⟨g, q1, q2, hrow⟩, fun _ => ⟨g2, p1, p2, hput.row p3 hne⟩, hj.ne⟩, trivial⟩⟩
        · intro ax wx L hj hdl hgl hfr hd
          have h8 : L 8 = true := hdl 8 (by kernel_rfl)
          have h9 : L 9 = true := hdl 9 (by kernel_rfl)
          obtain ⟨g, q1, q2, q3⟩ := hj.x h8
          obtain ⟨g2, p1, p2, p3⟩ := hj.y h9
          have hne : g ≠ g2 := fun e => hj.ne h8 h9 (by rw [q1, p1, e])
          have f27 : ax.tmps.getD 27 undef = .agg (ndC n2 B qn qc) := hd 7 (by kernel_rfl) _ _ rfl rfl
          exact ⟨wanted_free rfl, does_store_rn (.tmp 7) (.tmp 27) rfl g2 p1 f27 p3 fun w' hrow hput => ⟨⟨hput.q hj.q p2, fun _ => ⟨g, q1, q2, hput.row q3 hne⟩, fun _ => ⟨g2, p1, p2, hrow⟩, hj.ne⟩, trivial⟩⟩
      · intro t L wx hL hj _ hf
        have f23 : t 23 = .agg (ndC n2 A qn pc) := hf 3 _ _ rfl rfl
        have f27 : t 27 = .agg (ndC n2 B qn qc) := hf 7 _ _ rfl rfl
        obtain ⟨g1, q1, q2, q3⟩ := hj.x (hL 8 (by decide))
        obtain ⟨g2, p1, p2, p3⟩ := hj.y (hL 9 (by decide))
        rw [hL 10 (by decide), if_pos rfl] at q3
        rw [hL 11 (by decide), if_pos rfl] at p3
        have HX4 := Lib.hid (NodeAt.of_row q3)
        have HY4 := Lib.hid (NodeAt.of_row p3)
        have HQX := Lib.hid hj.q
        have HG1 := Lib.hid q3.lt
        have HG2 := Lib.hid p3.lt
        obtain ⟨c0, c1, c2, c3, c4, c5, c6⟩ := nd_cells HX4.out
        obtain ⟨d0, d1, d2, d3, d4, d5, d6⟩ := nd_cells HY4.out
        clear hf hj q2 q3 p2 p3 hL
        simp only [fillSlots, List.setIfInBounds_toArray, List.set_cons_succ, List.set_cons_zero, f23, f27, q1, p1]
        clear f23 f27 q1 p1
        go_wp2_with (first
          | ((with_reducible refine gate 70 rfl ?_); (refine wpList_run_gd (by rfl) (load_id 7 (.tmp 69) rfl rfl HX4.out.tree) ?_))
          | ((with_reducible refine gate 72 rfl ?_); (refine wpList_run_gd (by rfl) (load_id 7 (.tmp 71) rfl rfl HY4.out.tree) ?_))
          | ((with_reducible refine gate 73 rfl ?_); (refine wpList_run_gd (by rfl) (run_neq_id_same _ n2.tree HT.out _ _ _ _ rfl rfl rfl _) ?_)))
        go_loopw [8] (fun i wr => ∃ j : Nat, j ≤ qn ∧ i = .int .i64 j ∧ Hid (Q wx wr)) (fun i _ => qn - (intOf i).toNat)
        case atStart => exact ⟨0, by omega, rfl, Q.refl wx⟩
        case round =>
          obtain ⟨j, hj, rfl, HQi⟩ := hrel
          obtain ⟨wi, hwi⟩ : ∃ w, w = wr := ⟨_, rfl⟩
          subst hwi
          have HG1i : Hid (g1 < wi.heap.size) := Lib.hid (Nat.lt_of_lt_of_le HG1.out HQi.out.size)
          have HG2i : Hid (g2 < wi.heap.size) := Lib.hid (Nat.lt_of_lt_of_le HG2.out HQi.out.size)
          have c6i := (HQi.out.cell (p := ⟨g1, 6, none⟩) HG1.out).trans c6
          have d6i := (HQi.out.cell (p := ⟨g2, 6, none⟩) HG2.out).trans d6
          have HQwi : Hid (Q wq wi) := Lib.hid (HQX.out.step HQi.out)
          clear c0 c1 c2 c3 c4 c5 c6 d0 d1 d2 d3 d4 d5 d6
          by_cases hjl : j < qn
          · have hjn : j < n2.ids.length := by rw [HPL.out]; exact hjl
            obtain ⟨ab, ao, ea, hab, hca⟩ := ids_at (SeesP.on HP1.out HQwi.out) j hjn
            obtain ⟨bb, bo, eb, hbb, hcb⟩ := ids_at (SeesP.on HP2.out HQwi.out) j hjn
            have HI := Lib.hid (HID.out _ (List.getElem_mem hjn))
            generalize n2.ids[j] = id at *
            have HAB := Lib.hid hab
            have HBB := Lib.hid hbb
            have HCA := Lib.hid hca
            have HCB := Lib.hid hcb
            clear hab hbb hca hcb
            subst ea eb
            have hji : (j : Int) < qn := by omega
            go_wp2_with fail
            -- REGION12
            refine wp_region_factsL (by kernel_rfl) (by kernel_rfl) (factsOf [.is (.pointer (some ⟨g1, 6, none⟩)), .is (.slice (some ⟨ab, ao, none⟩) qn pc), .is (.int .i64 (j : Int)), .is (.pointer (some ⟨ab, ao + j * 32, none⟩)), .is (.agg (arrO id)), .is (.pointer (some ⟨g2, 6, none⟩)), .is (.slice (some ⟨bb, bo, none⟩) qn qc), .is (.int .i64 (j : Int)), .is (.pointer (some ⟨bb, bo + j * 32, none⟩)), .is (.agg (arrO id)), .is (.bool false)]) (factsOf_stays _) ?_ ?_
            · refine ⟨?_, ?_, ?_, ?_, ?_, ?_, ?_, ?_, ?_, ?_, ?_, trivial⟩
              · intro ax wx hq hfr hd
                have f6 : ax.tmps.getD 6 undef = .pointer (some ⟨g1, 0, none⟩) := (hfr 6 (by kernel_rfl)).trans rfl
                have e6 := (getD_form _ _).symm.trans f6
                exact .inl ⟨wanted_free rfl, OpDoes.run (v := .pointer (some ⟨g1, 6, none⟩)) (w' := wx) (by unfold execOp; simp [go_sem, Act.eval, e6]) ⟨Below.refl _ _, rfl⟩⟩
              · intro ax wx hq hfr hd
                have f91 : ax.tmps.getD 91 undef = .pointer (some ⟨g1, 6, none⟩) := hd 0 (by kernel_rfl) _ _ rfl rfl
                have e91 := (getD_form _ _).symm.trans f91
                have hc := (hq.cell (p := ⟨g1, 6, none⟩) HG1i.out).trans c6i
                exact .inl ⟨wanted_free rfl, OpDoes.run (v := .slice (some ⟨ab, ao, none⟩) qn pc) (w' := wx) (by unfold execOp; simp [go_sem, Act.eval, e91, hc]) ⟨Below.refl _ _, rfl⟩⟩
              · intro ax wx hq hfr hd
                have f8 : ax.tmps.getD 8 undef = .int .i64 (j : Int) := (hfr 8 (by kernel_rfl)).trans rfl
                have e8 := (getD_form _ _).symm.trans f8
                exact .inl ⟨wanted_free rfl, OpDoes.run (v := .int .i64 (j : Int)) (w' := wx) (by unfold execOp; simp only [Act.eval, f8, Sem.run_pure]) ⟨Below.refl _ _, rfl⟩⟩
              · intro ax wx hq hfr hd
                have f92 : ax.tmps.getD 92 undef = .slice (some ⟨ab, ao, none⟩) qn pc := hd 1 (by kernel_rfl) _ _ rfl rfl
                have e92 := (getD_form _ _).symm.trans f92
                have f93 : ax.tmps.getD 93 undef = .int .i64 (j : Int) := hd 2 (by kernel_rfl) _ _ rfl rfl
                have e93 := (getD_form _ _).symm.trans f93
                exact .inl ⟨wanted_free rfl, OpDoes.run (v := .pointer (some ⟨ab, ao + j * 32, none⟩)) (w' := wx) (by unfold execOp; simp [go_sem, Act.eval, e92, e93, add_addr, hji]) ⟨Below.refl _ _, rfl⟩⟩
              · intro ax wx hq hfr hd
                have f94 : ax.tmps.getD 94 undef = .pointer (some ⟨ab, ao + j * 32, none⟩) := hd 3 (by kernel_rfl) _ _ rfl rfl
                have e94 := (getD_form _ _).symm.trans f94
                exact .inl ⟨wanted_free rfl, OpDoes.run (v := .agg (arrO id)) (w' := wx) (load_id (ao + j * 32) (.tmp 94) rfl f94 (fun i hi => (hq.cell (p := ⟨ab, ao + j * 32 + i, none⟩) HAB.out).trans (HCA.out i hi))) ⟨Below.refl _ _, rfl⟩⟩
              · intro ax wx hq hfr hd
                have f7 : ax.tmps.getD 7 undef = .pointer (some ⟨g2, 0, none⟩) := (hfr 7 (by kernel_rfl)).trans rfl
                have e7 := (getD_form _ _).symm.trans f7
                exact .inl ⟨wanted_free rfl, OpDoes.run (v := .pointer (some ⟨g2, 6, none⟩)) (w' := wx) (by unfold execOp; simp [go_sem, Act.eval, e7]) ⟨Below.refl _ _, rfl⟩⟩
              · intro ax wx hq hfr hd
                have f96 : ax.tmps.getD 96 undef = .pointer (some ⟨g2, 6, none⟩) := hd 5 (by kernel_rfl) _ _ rfl rfl
                have e96 := (getD_form _ _).symm.trans f96
                have hc := (hq.cell (p := ⟨g2, 6, none⟩) HG2i.out).trans d6i
                exact .inl ⟨wanted_free rfl, OpDoes.run (v := .slice (some ⟨bb, bo, none⟩) qn qc) (w' := wx) (by unfold execOp; simp [go_sem, Act.eval, e96, hc]) ⟨Below.refl _ _, rfl⟩⟩
              · intro ax wx hq hfr hd
                have f8 : ax.tmps.getD 8 undef = .int .i64 (j : Int) := (hfr 8 (by kernel_rfl)).trans rfl
                have e8 := (getD_form _ _).symm.trans f8
                exact .inl ⟨wanted_free rfl, OpDoes.run (v := .int .i64 (j : Int)) (w' := wx) (by unfold execOp; simp only [Act.eval, f8, Sem.run_pure]) ⟨Below.refl _ _, rfl⟩⟩
              · intro ax wx hq hfr hd
                have f97 : ax.tmps.getD 97 undef = .slice (some ⟨bb, bo, none⟩) qn qc := hd 6 (by kernel_rfl) _ _ rfl rfl
                have e97 := (getD_form _ _).symm.trans f97
                have f98 : ax.tmps.getD 98 undef = .int .i64 (j : Int) := hd 7 (by kernel_rfl) _ _ rfl rfl
                have e98 := (getD_form _ _).symm.trans f98
                exact .inl ⟨wanted_free rfl, OpDoes.run (v := .pointer (some ⟨bb, bo + j * 32, none⟩)) (w' := wx) (by unfold execOp; simp [go_sem, Act.eval, e97, e98, add_addr, hji]) ⟨Below.refl _ _, rfl⟩⟩
              · intro ax wx hq hfr hd
                have f99 : ax.tmps.getD 99 undef = .pointer (some ⟨bb, bo + j * 32, none⟩) := hd 8 (by kernel_rfl) _ _ rfl rfl
                have e99 := (getD_form _ _).symm.trans f99
                exact .inl ⟨wanted_free rfl, OpDoes.run (v := .agg (arrO id)) (w' := wx) (load_id (bo + j * 32) (.tmp 99) rfl f99 (fun i hi => (hq.cell (p := ⟨bb, bo + j * 32 + i, none⟩) HBB.out).trans (HCB.out i hi))) ⟨Below.refl _ _, rfl⟩⟩
              · intro ax wx hq hfr hd
                have f95 : ax.tmps.getD 95 undef = .agg (arrO id) := hd 4 (by kernel_rfl) _ _ rfl rfl
                have e95 := (getD_form _ _).symm.trans f95
                have f100 : ax.tmps.getD 100 undef = .agg (arrO id) := hd 9 (by kernel_rfl) _ _ rfl rfl
                have e100 := (getD_form _ _).symm.trans f100
                exact .inl ⟨wanted_free rfl, OpDoes.run (v := .bool false) (w' := wx) (run_neq_id_same _ id HI.out _ _ _ _ rfl f95 f100 _) ⟨Below.refl _ _, rfl⟩⟩
            · intro us wx hq hf
              have f101 : us 101 = .bool false := hf 10 _ _ rfl rfl
              have HQX := Lib.hid hq
              clear hf hq
              simp only [fillSlots, List.setIfInBounds_toArray, List.set_cons_succ, List.set_cons_zero, f101]
              clear f101
              go_wp2_with fail
              go_roundw
              case rel => exact ⟨j + 1, by omega, by go_num, HQi.out.step HQX.out⟩
              case measure => simp [intOf]; omega
          · obtain rfl : qn = j := by omega
            go_wp2_with fail
            go_roundw
            case rel => exact ⟨k + 1, by omega, by go_num, HQr.out.step HQwi.out⟩
            case measure => simp [intOf]; omega
    · obtain rfl : nn = k := by omega
      go_wp2_with fail
      go_ret
      exact ⟨rfl, HQr.out⟩
end Go.Proofs.Ytffenfhbiapefaa
