/- As wp_region_factsL, where edges that do not bind may lead backwards (x, y = f(..) in one statement). -/
import Derived.Test.YtffenfhbiapefaaRegz
import Derived.Test.YtffenfhbiapefaaSrt
import Derived.Test.YtffenfhbiapefaaNel
namespace Go.Proofs.Ytffenfhbiapefaa
set_option linter.unusedVariables false
set_option linter.unusedSimpArgs false
open Go.RowKit

section
theorem steps_C {P : Program} {md : Region.Mode} {ops : Array Oper} {F : Nat → Value → World → Prop} {w0 : World} {a0 : Act} : ∀ {l : List Oper} {k : Nat}, StepsOkG P md ops F w0 a0 l k →
    StepsY (S := Unit) P md ops (fun _ _ w => Below w0.heap.size w0 w) (fun i u _ w => F i u w) (fun _ _ _ _ => False) (fun _ => none) a0 l k
  | [], _, _ => trivial
  | o :: l, k, h => ⟨fun a w v c hj _ hfr hd => h.1 a w hj hfr hd, steps_C h.2⟩
theorem wp_region_factsC {P : Program} {id : Nat} {ops : Array Oper} {Q : Exit → Act → World → Prop} {a0 : Act} {w : World} (hm : P.follows .mixedOrders = true) (hB : regionC .any ops a0.tmps.size = true)
    (F : Nat → Value → World → Prop) (hF : ∀ i v w w', F i v w → Below w.heap.size w w' → F i v w')
    (hs : StepsOkG P .any ops F w a0 ops.toList 0)
    (hend : ∀ (us : Nat → Value) w', Below w.heap.size w w' → (∀ (i : Nat) o d, ops[i]? = some o → o.dst = some d → F i (us d) w') → Q .normal { tmps := fillSlots us ops.toList a0.tmps, defers := a0.defers } w') : (Code.region id ops true).wp P Q a0 w :=
  wp_region_factsY (S := Unit) hm hB (fun _ _ w' => Below w.heap.size w w') (fun i u _ w => F i u w) (fun _ _ _ _ => False) (fun _ => none) (by simp [chainB]) 0 (by simp [countB])
    (fun _ _ w1 w2 h hq => Below.trans h (hq.mono h.size)) (fun i u _ w w' h hq => hF i u w w' h hq) (fun _ _ _ _ _ _ _ h => h.elim) () ((Below.refl _ _).drew) (steps_C hs) (fun us w' _ hj hf => hend us w' hj fun i o d hi hd => hf i o d hi hd)
end

section
theorem run_row_node2 {op : Oper} {a : Act} (x y : Operand) (ho : op.op = .buildSlice 27 2 #[(0, x), (1, y)]) (n : Nd) (B : Option Addr) (pn pc : Nat) (n2 : Nd) (B2 : Option Addr) (pn2 pc2 : Nat) (hx : a.eval x = .agg (ndC n B pn pc)) (hy : a.eval y = .agg (ndC n2 B2 pn2 pc2)) (w : World) :
    (execOp a.eval op).run Try.prog w = .ok (.value (.slice (some ⟨w.heap.size, 0, none⟩) 2 2)) (w.alloc (.cells (ndL n B pn pc ++ ndL n2 B2 pn2 pc2).toArray 33)) := by
  have h1 : (Instr.buildSlice 27 2 #[(0, .agg (ndC n B pn pc)), (1, .agg (ndC n2 B2 pn2 pc2))]).run Try.prog w = .ok (.slice (some ⟨w.heap.size, 0, none⟩) 2 2) (w.alloc (.cells (ndL n B pn pc ++ ndL n2 B2 pn2 pc2).toArray 33)) := by kernel_rfl
  unfold execOp
  simp only [ho, List.map_toArray, List.map_cons, List.map_nil, hx, hy, Sem.run_bind, h1, Result.andThen_ok, Sem.run_pure]
theorem nodesAt_box {w w' : World} {A : Option Addr} {zs ps : List NdIn} {T : TypeId} (h : NodesAt w A zs) (hq : Q w w') (hm : ∀ z ∈ ps, z ∈ zs) : NodesAt (w'.alloc (.cells (ndsL ps).toArray T)) (some ⟨w'.heap.size, 0, none⟩) ps :=
  ⟨sees_new w' (ndsL ps) T _ (by simp), fun z hz => SeesP.on (h.parts z (hm z hz)) (hq.alloc _), fun z hz => h.fit z (hm z hz)⟩
/-- A row of these nodes, just made. -/
def BoxN (ps : List NdIn) (u : Value) (w : World) : Prop := ∃ g, u = .slice (some ⟨g, 0, none⟩) ps.length ps.length ∧ NodesAt w (some ⟨g, 0, none⟩) ps
theorem BoxN.q {ps : List NdIn} (u : Value) (w w' : World) (h : BoxN ps u w) (hq : Below w.heap.size w w') : BoxN ps u w' := by
  obtain ⟨g, h1, h2⟩ := h
  exact ⟨g, h1, h2.q hq⟩
/-- The second of a pair is this error. -/
def ErrIs (k : Nat) (u : Value) (_ : World) : Prop := ∃ x, u = .tuple #[x, .int .i64 (k : Int)]
theorem ErrIs.q {k : Nat} (u : Value) (w w' : World) (h : ErrIs k u w) (_ : Below w.heap.size w w') : ErrIs k u w' := h
theorem encode_box {ps : List NdIn} {u : Value} {w : World} {k : Nat} (h : BoxN ps u w) (hp : ∀ z ∈ ps, z.pn ≤ 300) (hl : ps.length ≤ 60) (hk : (encN (ps.map (·.n))).2 = k) :
    Calls Try.prog 18 #[u] w fun e w' => ∃ v, e = .returned v ∧ Below w.heap.size w w' ∧ ErrIs k v w' := by
  obtain ⟨g, rfl, h2⟩ := h
  refine (encode_ok (some ⟨g, 0, none⟩) ps.length ps.length ps w rfl (by omega) h2 (fun z hz => by have := hp z hz; omega)).mono fun e w' ⟨A, cp, n, he, hr⟩ => ⟨_, he, hr.out.2.2.1, _, by rw [← hk]⟩
theorem enc_err {l : List Nd} (h : ∀ n ∈ l, checkN n = 0) (hl : l.length ≤ 2000) : (encN l).2 = if risesTo l l.length then 0 else 2 := by
  unfold encN
  rw [if_neg (by omega), if_neg (by rw [firstErr_none l h]; simp)]
  split <;> rfl
theorem enc_up {a b : Nd} (ha : checkN a = 0) (hb : checkN b = 0) (h : ltS a.name b.name = true) : (encN [a, b]).2 = 0 := by
  rw [enc_err (by intro n hn; simp at hn; rcases hn with rfl | rfl <;> assumption) (by simp)]
  have h2 := leS_of_lt h
  simp [risesTo, List.range_succ, h2]
theorem enc_down {a b : Nd} (ha : checkN a = 0) (hb : checkN b = 0) (h : leS b.name a.name = true) : (encN [a, b]).2 = 2 := by
  rw [enc_err (by intro n hn; simp at hn; rcases hn with rfl | rfl <;> assumption) (by simp)]
  simp [risesTo, List.range_succ, h]
theorem enc_single {a : Nd} (ha : checkN a = 0) : (encN [a]).2 = 0 := by
  rw [enc_err (by intro n hn; simp at hn; rw [hn]; exact ha) (by simp)]
  simp [risesTo, List.range_succ]
theorem rises_to {l : List NdIn} (h : Rises l) : risesTo (l.map (·.n)) (l.map (·.n)).length = true := by
  unfold risesTo
  rw [List.all_eq_true]
  intro i hi
  have hi := List.mem_range.1 hi
  rw [List.length_map] at hi
  rcases Nat.eq_zero_or_pos i with rfl | h0
  · rfl
  · have e1 : (l.map (·.n)).getD i noNd = l[i].n := by simp [List.getD, hi]
    have e2 : (l.map (·.n)).getD (i - 1) noNd = l[i - 1].n := by simp [List.getD, show i - 1 < l.length by omega]
    rw [e1, e2, leS_of_lt (h (i - 1) i (by omega) hi (by omega))]
    simp
theorem enc_all {l : List NdIn} (h : Rises l) (hc : ∀ z ∈ l, checkN z.n = 0) (hl : l.length ≤ 60) : encN (l.map (·.n)) = ([72, 89, 110] ++ numL l.length ++ (l.map (·.n)).flatMap encNd, 0) := by
  unfold encN
  rw [if_neg (by simp; omega), if_neg (by rw [firstErr_none _ (by intro n hn; obtain ⟨z, hz, rfl⟩ := List.mem_map.1 hn; exact hc z hz)]; simp), if_pos (rises_to h), List.length_map]
theorem rises_same {outs ys : List NdIn} (he : outs.map (·.n) = ys.map (·.n)) (h : Rises ys) : Rises outs := by
  have hl : outs.length = ys.length := by have := congrArg List.length he; simpa using this
  have hg : ∀ i (h1 : i < outs.length), outs[i].n = (ys[i]'(by omega)).n := fun i h1 => by
    have h2 : (outs.map (·.n))[i]? = (ys.map (·.n))[i]? := by rw [he]
    rw [List.getElem?_map, List.getElem?_map, List.getElem?_eq_getElem h1, List.getElem?_eq_getElem (by omega)] at h2
    exact Option.some.inj h2
  intro i j hi hj hij
  rw [hg i hi, hg j hj]
  exact h i j (by omega) (by omega) hij
theorem check_same {outs ys : List NdIn} (he : outs.map (·.n) = ys.map (·.n)) (h : ∀ z ∈ ys, checkN z.n = 0) : ∀ z ∈ outs, checkN z.n = 0 := fun z hz => by
  have h1 : z.n ∈ ys.map (·.n) := by rw [← he]; exact List.mem_map_of_mem hz
  obtain ⟨y, hy, e⟩ := List.mem_map.1 h1
  rw [← e]; exact h y hy
/-- What the laws begin with: few, then sorted. -/
theorem sorted_few {A0 : Option Addr} {nn nc : Nat} {zs : List NdIn} {w : World} (hz : zs.length = nn) (hn : nn ≤ 9223372036854775807) (h : NodesAt w A0 zs) :
    Calls Try.prog 16 #[.slice A0 nn nc] w fun e w1 => ∃ A1 c1, e = .returned (.slice A1 (fewL zs).length c1) ∧ Q w w1 ∧
      Calls Try.prog 21 #[.slice A1 (fewL zs).length c1] w1 fun e w2 => ∃ A2 c2, e = .returned (.slice A2 (sortN (fewL zs)).length c2) ∧ Hid (NodesAt w2 A2 (sortN (fewL zs)) ∧ Q w1 w2) := by
  refine (few_ok A0 nn nc zs w hz hn h).mono fun e w' ⟨v, he, hr⟩ => ?_
  obtain ⟨A, c, rfl, hN⟩ := hr.out.nodesAt (fun z hz' => h.parts z (fewL_mem z hz')) (fun z hz' => h.fit z (fewL_mem z hz'))
  refine ⟨A, c, he, hr.out.q, ?_⟩
  refine (sorted_ok A _ c _ w' rfl (by have := fewL_len (zs := zs); omega) hN).mono fun e2 w2 ⟨v2, he2, hr2⟩ => ?_
  obtain ⟨A2, c2, rfl, hN2⟩ := hr2.out.nodesAt (fun z hz' => hN.parts z ((sortN_all _).1 z hz').1) (fun z hz' => hN.fit z ((sortN_all _).1 z hz').1)
  exact ⟨A2, c2, he2, Lib.hid ⟨hN2, hr2.out.q⟩⟩
set_option maxHeartbeats 16000000 in
set_option maxRecDepth 100000 in
theorem nodeOrders_walk (A0 : Option Addr) (nn nc : Nat) (zs : List NdIn) (w : World) (hz : zs.length = nn) (hn : nn ≤ 9223372036854775807) (h : NodesAt w A0 zs) :
    Calls Try.prog 5 #[.slice A0 nn nc] w fun e w' => e = .returned (.bool true) ∧ Q w w' := by
  have HFW := Lib.hid (sorted_few (nc := nc) hz hn h)
  have HP0 : Hid (∀ z ∈ sortN (fewL zs), z.pn ≤ 300) := Lib.hid fun z hz => fewL_fits z ((sortN_all _).1 z hz).1
  have HC0 : Hid (∀ z ∈ sortN (fewL zs), checkN z.n = 0) := Lib.hid fun z hz => ((sortN_all _).1 z hz).2
  have HR0 : Hid (Rises (sortN (fewL zs))) := Lib.hid (sortN_all _).2.2
  have HL0 : Hid ((sortN (fewL zs)).length ≤ 60) := Lib.hid (Nat.le_trans (sortN_all _).2.1 fewL_len)
  clear hz hn h
  generalize sortN (fewL zs) = ys at *
  generalize (fewL zs).length = mf at *
  obtain ⟨m, hm⟩ : ∃ m, m = ys.length := ⟨_, rfl⟩
  rw [← hm] at HFW HL0
  have HM := Lib.hid hm.symm
  clear hm
  have hml := HL0.out
  go_enter Try.func5, Try.ntmps5
  go_upto_region 3 with (first
    | (go_at_call 16; go_loud ((with_reducible refine (HFW.out).mono ?_); rintro e1 w1 ⟨A1, c1, rfl, hq1, H1⟩; have HQ1 := Lib.hid hq1; have HSO := Lib.hid H1; clear hq1 H1))
    | (go_at_call 21; go_loud ((with_reducible refine (HSO.out).mono ?_); rintro e2 w2 ⟨A2, c2, rfl, H2⟩; have HT := Lib.hid (to_ok A2 m c2 ys w2 HM.out (by omega) H2.out.1 (fun z hz => by have := HP0.out z hz; omega))))
    | (go_at_call 10; go_loud ((with_reducible refine (HT.out).mono ?_); rintro e3 w3 ⟨v3, outs, rfl, H3⟩; obtain ⟨A3, c3, rfl, HN3⟩ := H3.out.1.nodesAt (fits_same H3.out.2 H2.out.1.fit); have hol : outs.length = m := (Made.len H3.out.2).trans HM.out; rw [hol]; have HNO := Lib.hid HN3; have HQ3 := Lib.hid (HQ1.out.step (H2.out.2.step H3.out.1.q)); have HOP := Lib.hid (map_pn H3.out.2 HP0.out); have HON := Lib.hid (map_n H3.out.2); have HOL := Lib.hid hol; clear HN3 hol)))
  have HRO := Lib.hid (rises_same HON.out HR0.out)
  have HCO := Lib.hid (check_same HON.out HC0.out)
  clear HR0 HC0 HP0 HON HFW HSO HT HM H2 H3
  go_wp2_with fail
  go_loopw [4] (fun i wr => ∃ j : Nat, j ≤ m ∧ i = .int .i64 j ∧ Hid (Q w3 wr)) (fun i _ => m - (intOf i).toNat)
  case atStart => exact ⟨0, by omega, rfl, Q.refl _⟩
  case round =>
    obtain ⟨j, hj, rfl, HQr⟩ := hrel
    obtain ⟨wq, hwq⟩ : ∃ w, w = wr := ⟨_, rfl⟩
    subst hwq
    by_cases hlt : j + 1 < m
    · have hk1 : j < outs.length := by rw [HOL.out]; omega
      have hk2 : j + 1 < outs.length := by rw [HOL.out]; omega
      have HN2 := Lib.hid (HNO.out.q HQr.out)
      obtain ⟨b, o, e1, hb1, hat1⟩ := HN2.out.at_ j hk1
      obtain ⟨b', o', e2, hb2, hat2⟩ := HN2.out.at_ (j + 1) hk2
      have hm1 := List.getElem_mem hk1
      have hm2 := List.getElem_mem hk2
      have hup := HRO.out j (j + 1) hk1 hk2 (by omega)
      generalize outs[j] = za at *
      generalize outs[j + 1] = zb at *
      have hca := HCO.out za hm1
      have hcb := HCO.out zb hm2
      have hpa := HOP.out za hm1
      have hpb := HOP.out zb hm2
      obtain ⟨na, AA, pa, ca⟩ := za
      obtain ⟨nb, AB, pb, cb⟩ := zb
      simp only at hat1 hat2 hup hca hcb hpa hpb
      subst e1
      injection e2 with e2
      injection e2 with e3 e4
      subst e3 e4
      have HA := Lib.hid hat1
      have HB := Lib.hid hat2
      have HBL := Lib.hid hb1
      have HUE : Hid ((encN ([(⟨na, AA, pa, ca⟩ : NdIn), (⟨nb, AB, pb, cb⟩ : NdIn)].map (·.n))).2 = 0) := Lib.hid (enc_up hca hcb hup)
      have HVE : Hid ((encN ([(⟨nb, AB, pb, cb⟩ : NdIn), (⟨na, AA, pa, ca⟩ : NdIn)].map (·.n))).2 = 2) := Lib.hid (enc_down hcb hca (leS_of_lt2 hup))
      have HWE : Hid ((encN ([(⟨na, AA, pa, ca⟩ : NdIn), (⟨na, AA, pa, ca⟩ : NdIn)].map (·.n))).2 = 2) := Lib.hid (enc_down hca hca (leS_refl _))
      have HXE : Hid ((encN ([(⟨na, AA, pa, ca⟩ : NdIn)].map (·.n))).2 = 0) := Lib.hid (enc_single hca)
      have HUP : Hid (∀ z ∈ [(⟨na, AA, pa, ca⟩ : NdIn), (⟨nb, AB, pb, cb⟩ : NdIn)], z.pn ≤ 300) := Lib.hid fun z hz => by
        rcases List.mem_cons.1 hz with rfl | hz
        · exact hpa
        · rw [List.mem_singleton.1 hz]; exact hpb
      have HUM : Hid (∀ z ∈ [(⟨na, AA, pa, ca⟩ : NdIn), (⟨nb, AB, pb, cb⟩ : NdIn)], z ∈ outs) := Lib.hid fun z hz => by
        rcases List.mem_cons.1 hz with rfl | hz
        · exact hm1
        · rw [List.mem_singleton.1 hz]; exact hm2
      have HVP : Hid (∀ z ∈ [(⟨nb, AB, pb, cb⟩ : NdIn), (⟨na, AA, pa, ca⟩ : NdIn)], z.pn ≤ 300) := Lib.hid fun z hz => HUP.out z (by simpa [or_comm] using hz)
      have HVM : Hid (∀ z ∈ [(⟨nb, AB, pb, cb⟩ : NdIn), (⟨na, AA, pa, ca⟩ : NdIn)], z ∈ outs) := Lib.hid fun z hz => HUM.out z (by simpa [or_comm] using hz)
      have HWP : Hid (∀ z ∈ [(⟨na, AA, pa, ca⟩ : NdIn), (⟨na, AA, pa, ca⟩ : NdIn)], z.pn ≤ 300) := Lib.hid fun z hz => HUP.out z (by simp at hz; simp [hz])
      have HWM : Hid (∀ z ∈ [(⟨na, AA, pa, ca⟩ : NdIn), (⟨na, AA, pa, ca⟩ : NdIn)], z ∈ outs) := Lib.hid fun z hz => HUM.out z (by simp at hz; simp [hz])
      have hj1 : IntKind.i64.wrap ((j : Int) + 1) = (j : Int) + 1 := IntWalk.i64_in _ (by omega)
      have hjm : (j : Int) < m := by omega
      have hj1n : (j : Int) + 1 < m := by omega
      have hj0 : ¬ ((j : Int) + 1 < 0) := by omega
      have hjm1 : ((j : Int) + 1).toNat = j + 1 := by omega
      clear hm1 hm2 hup hca hcb hpa hpb hat1 hat2 hb1 hb2 hk1 hk2
      have HQ1 : Hid (Q wq wq) := Lib.hid (Q.refl _)
      go_upto_region 6 with fail
      go_wp2_with fail
      -- REGION6
      refine wp_region_factsC (by kernel_rfl) (by kernel_rfl) (factsOf [.is (.slice (some ⟨b, o, none⟩) m c3), .is (.int .i64 (j : Nat)), .is (.pointer (some ⟨b, o + j * 39, none⟩)), .is (.agg (ndC na AA pa ca)), .is (.slice (some ⟨b, o, none⟩) m c3), .is (.int .i64 (j : Nat)), .is (.int .i64 ((j : Int) + 1)), .is (.pointer (some ⟨b, o + (j + 1) * 39, none⟩)), .is (.agg (ndC nb AB pb cb)), .that (BoxN [(⟨na, AA, pa, ca⟩ : NdIn), (⟨nb, AB, pb, cb⟩ : NdIn)]) (BoxN.q), .that (ErrIs 0) (ErrIs.q), .that (ErrIs 0) (ErrIs.q), .any, .is (.int .i64 0), .any, .is (.int .i64 0)]) (factsOf_stays _) ?_ ?_
      · refine ⟨?_, ?_, ?_, ?_, ?_, ?_, ?_, ?_, ?_, ?_, ?_, ?_, ?_, ?_, ?_, ?_, trivial⟩
        · intro ax wx hq hfr hd
          have f3 : ax.tmps.getD 3 undef = .slice (some ⟨b, o, none⟩) m c3 := (hfr 3 (by kernel_rfl)).trans rfl
          have e3 := (getD_form _ _).symm.trans f3
          exact .inl ⟨wanted_free rfl, OpDoes.run (v := .slice (some ⟨b, o, none⟩) m c3) (w' := wx) (by unfold execOp; simp only [Act.eval, f3, Sem.run_pure]) ⟨Below.refl _ _, rfl⟩⟩
        · intro ax wx hq hfr hd
          have f4 : ax.tmps.getD 4 undef = .int .i64 (j : Nat) := (hfr 4 (by kernel_rfl)).trans rfl
          have e4 := (getD_form _ _).symm.trans f4
          exact .inl ⟨wanted_free rfl, OpDoes.run (v := .int .i64 (j : Nat)) (w' := wx) (by unfold execOp; simp only [Act.eval, f4, Sem.run_pure]) ⟨Below.refl _ _, rfl⟩⟩
        · intro ax wx hq hfr hd
          have f28 : ax.tmps.getD 28 undef = .slice (some ⟨b, o, none⟩) m c3 := hd 0 (by kernel_rfl) _ _ rfl rfl
          have e28 := (getD_form _ _).symm.trans f28
          have f29 : ax.tmps.getD 29 undef = .int .i64 (j : Nat) := hd 1 (by kernel_rfl) _ _ rfl rfl
          have e29 := (getD_form _ _).symm.trans f29
          exact .inl ⟨wanted_free rfl, OpDoes.run (v := .pointer (some ⟨b, o + j * 39, none⟩)) (w' := wx) (by unfold execOp; simp [go_sem, Act.eval, e28, e29, add_addr, hjm]) ⟨Below.refl _ _, rfl⟩⟩
        · intro ax wx hq hfr hd
          have f30 : ax.tmps.getD 30 undef = .pointer (some ⟨b, o + j * 39, none⟩) := hd 2 (by kernel_rfl) _ _ rfl rfl
          have e30 := (getD_form _ _).symm.trans f30
          exact .inl ⟨wanted_free rfl, OpDoes.run (v := .agg (ndC na AA pa ca)) (w' := wx) (load_node (.tmp 30) rfl f30 (NodeAt.q HA.out HBL.out (HQ1.out.step hq))) ⟨Below.refl _ _, rfl⟩⟩
        · intro ax wx hq hfr hd
          have f3 : ax.tmps.getD 3 undef = .slice (some ⟨b, o, none⟩) m c3 := (hfr 3 (by kernel_rfl)).trans rfl
          have e3 := (getD_form _ _).symm.trans f3
          exact .inl ⟨wanted_free rfl, OpDoes.run (v := .slice (some ⟨b, o, none⟩) m c3) (w' := wx) (by unfold execOp; simp only [Act.eval, f3, Sem.run_pure]) ⟨Below.refl _ _, rfl⟩⟩
        · intro ax wx hq hfr hd
          have f4 : ax.tmps.getD 4 undef = .int .i64 (j : Nat) := (hfr 4 (by kernel_rfl)).trans rfl
          have e4 := (getD_form _ _).symm.trans f4
          exact .inl ⟨wanted_free rfl, OpDoes.run (v := .int .i64 (j : Nat)) (w' := wx) (by unfold execOp; simp only [Act.eval, f4, Sem.run_pure]) ⟨Below.refl _ _, rfl⟩⟩
        · intro ax wx hq hfr hd
          have f33 : ax.tmps.getD 33 undef = .int .i64 (j : Nat) := hd 5 (by kernel_rfl) _ _ rfl rfl
          have e33 := (getD_form _ _).symm.trans f33
          exact .inl ⟨wanted_free rfl, OpDoes.run (v := .int .i64 ((j : Int) + 1)) (w' := wx) (by unfold execOp; simp [go_sem, Act.eval, e33, hj1]) ⟨Below.refl _ _, rfl⟩⟩
        · intro ax wx hq hfr hd
          have f32 : ax.tmps.getD 32 undef = .slice (some ⟨b, o, none⟩) m c3 := hd 4 (by kernel_rfl) _ _ rfl rfl
          have e32 := (getD_form _ _).symm.trans f32
          have f34 : ax.tmps.getD 34 undef = .int .i64 ((j : Int) + 1) := hd 6 (by kernel_rfl) _ _ rfl rfl
          have e34 := (getD_form _ _).symm.trans f34
          exact .inl ⟨wanted_free rfl, OpDoes.run (v := .pointer (some ⟨b, o + (j + 1) * 39, none⟩)) (w' := wx) (by unfold execOp; simp [go_sem, Act.eval, e32, e34, add_addr, hjm1, hj1n, hj0]) ⟨Below.refl _ _, rfl⟩⟩
        · intro ax wx hq hfr hd
          have f35 : ax.tmps.getD 35 undef = .pointer (some ⟨b, o + (j + 1) * 39, none⟩) := hd 7 (by kernel_rfl) _ _ rfl rfl
          have e35 := (getD_form _ _).symm.trans f35
          exact .inl ⟨wanted_free rfl, OpDoes.run (v := .agg (ndC nb AB pb cb)) (w' := wx) (load_node (.tmp 35) rfl f35 (NodeAt.q HB.out HBL.out (HQ1.out.step hq))) ⟨Below.refl _ _, rfl⟩⟩
        · intro ax wx hq hfr hd
          have f31 : ax.tmps.getD 31 undef = .agg (ndC na AA pa ca) := hd 3 (by kernel_rfl) _ _ rfl rfl
          have e31 := (getD_form _ _).symm.trans f31
          have f36 : ax.tmps.getD 36 undef = .agg (ndC nb AB pb cb) := hd 8 (by kernel_rfl) _ _ rfl rfl
          have e36 := (getD_form _ _).symm.trans f36
          have hbx := nodesAt_box (T := 33) HN2.out (HQ1.out.step hq) HUM.out
          have hnl : ndsL [(⟨na, AA, pa, ca⟩ : NdIn), (⟨nb, AB, pb, cb⟩ : NdIn)] = ndL na AA pa ca ++ ndL nb AB pb cb := by simp [ndsL]
          rw [hnl] at hbx
          exact .inl ⟨wanted_free rfl, OpDoes.run (run_row_node2 (.tmp 31) (.tmp 36) rfl na AA pa ca nb AB pb cb f31 f36 wx) ⟨(Q.refl wx).alloc _, _, rfl, hbx⟩⟩
        · intro ax wx hq hfr hd
          have h37 : (BoxN [(⟨na, AA, pa, ca⟩ : NdIn), (⟨nb, AB, pb, cb⟩ : NdIn)]) (ax.tmps.getD 37 undef) wx := hd 9 (by kernel_rfl) _ _ rfl rfl
          exact .inl ⟨wanted_free rfl, OpDoes.call (f := 18) (args := #[ax.tmps.getD 37 undef]) (w' := wx) (by unfold execOp; simp [go_sem, Act.eval]) (encode_box h37 HUP.out (by simp) HUE.out)⟩
        · intro ax wx hq hfr hd
          have h38 : (ErrIs 0) (ax.tmps.getD 38 undef) wx := hd 10 (by kernel_rfl) _ _ rfl rfl
          exact .inl ⟨wanted_free rfl, OpDoes.run (v := ax.tmps.getD 38 undef) (w' := wx) (by unfold execOp; simp only [Act.eval, Sem.run_pure]) ⟨Below.refl _ _, h38⟩⟩
        · intro ax wx hq hfr hd
          have h27 : (ErrIs 0) (ax.tmps.getD 27 undef) wx := hd 11 (by kernel_rfl) _ _ rfl rfl
          obtain ⟨x, ex⟩ := h27
          have exx := (getD_form _ _).symm.trans ex
          exact .inl ⟨wanted_free rfl, OpDoes.run (v := x) (w' := wx) (by unfold execOp; simp [go_sem, Act.eval, exx]) ⟨Below.refl _ _, trivial⟩⟩
        · intro ax wx hq hfr hd
          have h27 : (ErrIs 0) (ax.tmps.getD 27 undef) wx := hd 11 (by kernel_rfl) _ _ rfl rfl
          obtain ⟨x, ex⟩ := h27
          have exx := (getD_form _ _).symm.trans ex
          exact .inl ⟨wanted_free rfl, OpDoes.run (v := .int .i64 0) (w' := wx) (by unfold execOp; simp [go_sem, Act.eval, exx]) ⟨Below.refl _ _, rfl⟩⟩
        · intro ax wx hq hfr hd
          exact .inl ⟨wanted_free rfl, OpDoes.run (v := ax.tmps.getD 39 undef) (w' := wx) (by unfold execOp; simp only [Act.eval, Sem.run_pure]) ⟨Below.refl _ _, trivial⟩⟩
        · intro ax wx hq hfr hd
          have f40 : ax.tmps.getD 40 undef = .int .i64 0 := hd 13 (by kernel_rfl) _ _ rfl rfl
          have e40 := (getD_form _ _).symm.trans f40
          exact .inl ⟨wanted_free rfl, OpDoes.run (v := .int .i64 0) (w' := wx) (by unfold execOp; simp only [Act.eval, f40, Sem.run_pure]) ⟨Below.refl _ _, rfl⟩⟩
      · intro us wx hq hf
        have f6 : us 6 = .int .i64 0 := hf 15 _ _ rfl rfl
        have HQX := Lib.hid hq
        clear hf hq
        simp only [fillSlots, List.setIfInBounds_toArray, List.set_cons_succ, List.set_cons_zero, f6]
        clear f6
      -- DNE6
        have HQ2 : Hid (Q wq wx) := Lib.hid HQX.out
        clear HQX
        go_wp2_with fail
        -- REGION7
        refine wp_region_factsC (by kernel_rfl) (by kernel_rfl) (factsOf [.is (.slice (some ⟨b, o, none⟩) m c3), .is (.int .i64 (j : Nat)), .is (.int .i64 ((j : Int) + 1)), .is (.pointer (some ⟨b, o + (j + 1) * 39, none⟩)), .is (.agg (ndC nb AB pb cb)), .is (.slice (some ⟨b, o, none⟩) m c3), .is (.int .i64 (j : Nat)), .is (.pointer (some ⟨b, o + j * 39, none⟩)), .is (.agg (ndC na AA pa ca)), .that (BoxN [(⟨nb, AB, pb, cb⟩ : NdIn), (⟨na, AA, pa, ca⟩ : NdIn)]) (BoxN.q), .that (ErrIs 2) (ErrIs.q), .that (ErrIs 2) (ErrIs.q), .any, .is (.int .i64 2), .any, .is (.int .i64 2)]) (factsOf_stays _) ?_ ?_
        · refine ⟨?_, ?_, ?_, ?_, ?_, ?_, ?_, ?_, ?_, ?_, ?_, ?_, ?_, ?_, ?_, ?_, trivial⟩
          · intro ax wx hq hfr hd
            have f3 : ax.tmps.getD 3 undef = .slice (some ⟨b, o, none⟩) m c3 := (hfr 3 (by kernel_rfl)).trans rfl
            have e3 := (getD_form _ _).symm.trans f3
            exact .inl ⟨wanted_free rfl, OpDoes.run (v := .slice (some ⟨b, o, none⟩) m c3) (w' := wx) (by unfold execOp; simp only [Act.eval, f3, Sem.run_pure]) ⟨Below.refl _ _, rfl⟩⟩
          · intro ax wx hq hfr hd
            have f4 : ax.tmps.getD 4 undef = .int .i64 (j : Nat) := (hfr 4 (by kernel_rfl)).trans rfl
            have e4 := (getD_form _ _).symm.trans f4
            exact .inl ⟨wanted_free rfl, OpDoes.run (v := .int .i64 (j : Nat)) (w' := wx) (by unfold execOp; simp only [Act.eval, f4, Sem.run_pure]) ⟨Below.refl _ _, rfl⟩⟩
          · intro ax wx hq hfr hd
            have f43 : ax.tmps.getD 43 undef = .int .i64 (j : Nat) := hd 1 (by kernel_rfl) _ _ rfl rfl
            have e43 := (getD_form _ _).symm.trans f43
            exact .inl ⟨wanted_free rfl, OpDoes.run (v := .int .i64 ((j : Int) + 1)) (w' := wx) (by unfold execOp; simp [go_sem, Act.eval, e43, hj1]) ⟨Below.refl _ _, rfl⟩⟩
          · intro ax wx hq hfr hd
            have f42 : ax.tmps.getD 42 undef = .slice (some ⟨b, o, none⟩) m c3 := hd 0 (by kernel_rfl) _ _ rfl rfl
            have e42 := (getD_form _ _).symm.trans f42
            have f44 : ax.tmps.getD 44 undef = .int .i64 ((j : Int) + 1) := hd 2 (by kernel_rfl) _ _ rfl rfl
            have e44 := (getD_form _ _).symm.trans f44
            exact .inl ⟨wanted_free rfl, OpDoes.run (v := .pointer (some ⟨b, o + (j + 1) * 39, none⟩)) (w' := wx) (by unfold execOp; simp [go_sem, Act.eval, e42, e44, add_addr, hjm1, hj1n, hj0]) ⟨Below.refl _ _, rfl⟩⟩
          · intro ax wx hq hfr hd
            have f45 : ax.tmps.getD 45 undef = .pointer (some ⟨b, o + (j + 1) * 39, none⟩) := hd 3 (by kernel_rfl) _ _ rfl rfl
            have e45 := (getD_form _ _).symm.trans f45
            exact .inl ⟨wanted_free rfl, OpDoes.run (v := .agg (ndC nb AB pb cb)) (w' := wx) (load_node (.tmp 45) rfl f45 (NodeAt.q HB.out HBL.out (HQ2.out.step hq))) ⟨Below.refl _ _, rfl⟩⟩
          · intro ax wx hq hfr hd
            have f3 : ax.tmps.getD 3 undef = .slice (some ⟨b, o, none⟩) m c3 := (hfr 3 (by kernel_rfl)).trans rfl
            have e3 := (getD_form _ _).symm.trans f3
            exact .inl ⟨wanted_free rfl, OpDoes.run (v := .slice (some ⟨b, o, none⟩) m c3) (w' := wx) (by unfold execOp; simp only [Act.eval, f3, Sem.run_pure]) ⟨Below.refl _ _, rfl⟩⟩
          · intro ax wx hq hfr hd
            have f4 : ax.tmps.getD 4 undef = .int .i64 (j : Nat) := (hfr 4 (by kernel_rfl)).trans rfl
            have e4 := (getD_form _ _).symm.trans f4
            exact .inl ⟨wanted_free rfl, OpDoes.run (v := .int .i64 (j : Nat)) (w' := wx) (by unfold execOp; simp only [Act.eval, f4, Sem.run_pure]) ⟨Below.refl _ _, rfl⟩⟩
          · intro ax wx hq hfr hd
            have f47 : ax.tmps.getD 47 undef = .slice (some ⟨b, o, none⟩) m c3 := hd 5 (by kernel_rfl) _ _ rfl rfl
            have e47 := (getD_form _ _).symm.trans f47
            have f48 : ax.tmps.getD 48 undef = .int .i64 (j : Nat) := hd 6 (by kernel_rfl) _ _ rfl rfl
            have e48 := (getD_form _ _).symm.trans f48
            exact .inl ⟨wanted_free rfl, OpDoes.run (v := .pointer (some ⟨b, o + j * 39, none⟩)) (w' := wx) (by unfold execOp; simp [go_sem, Act.eval, e47, e48, add_addr, hjm]) ⟨Below.refl _ _, rfl⟩⟩
          · intro ax wx hq hfr hd
            have f49 : ax.tmps.getD 49 undef = .pointer (some ⟨b, o + j * 39, none⟩) := hd 7 (by kernel_rfl) _ _ rfl rfl
            have e49 := (getD_form _ _).symm.trans f49
            exact .inl ⟨wanted_free rfl, OpDoes.run (v := .agg (ndC na AA pa ca)) (w' := wx) (load_node (.tmp 49) rfl f49 (NodeAt.q HA.out HBL.out (HQ2.out.step hq))) ⟨Below.refl _ _, rfl⟩⟩
          · intro ax wx hq hfr hd
            have f46 : ax.tmps.getD 46 undef = .agg (ndC nb AB pb cb) := hd 4 (by kernel_rfl) _ _ rfl rfl
            have e46 := (getD_form _ _).symm.trans f46
            have f50 : ax.tmps.getD 50 undef = .agg (ndC na AA pa ca) := hd 8 (by kernel_rfl) _ _ rfl rfl
            have e50 := (getD_form _ _).symm.trans f50
            have hbx := nodesAt_box (T := 33) HN2.out (HQ2.out.step hq) HVM.out
            have hnl : ndsL [(⟨nb, AB, pb, cb⟩ : NdIn), (⟨na, AA, pa, ca⟩ : NdIn)] = ndL nb AB pb cb ++ ndL na AA pa ca := by simp [ndsL]
            rw [hnl] at hbx
            exact .inl ⟨wanted_free rfl, OpDoes.run (run_row_node2 (.tmp 46) (.tmp 50) rfl nb AB pb cb na AA pa ca f46 f50 wx) ⟨(Q.refl wx).alloc _, _, rfl, hbx⟩⟩
          · intro ax wx hq hfr hd
            have h51 : (BoxN [(⟨nb, AB, pb, cb⟩ : NdIn), (⟨na, AA, pa, ca⟩ : NdIn)]) (ax.tmps.getD 51 undef) wx := hd 9 (by kernel_rfl) _ _ rfl rfl
            exact .inl ⟨wanted_free rfl, OpDoes.call (f := 18) (args := #[ax.tmps.getD 51 undef]) (w' := wx) (by unfold execOp; simp [go_sem, Act.eval]) (encode_box h51 HVP.out (by simp) HVE.out)⟩
          · intro ax wx hq hfr hd
            have h52 : (ErrIs 2) (ax.tmps.getD 52 undef) wx := hd 10 (by kernel_rfl) _ _ rfl rfl
            exact .inl ⟨wanted_free rfl, OpDoes.run (v := ax.tmps.getD 52 undef) (w' := wx) (by unfold execOp; simp only [Act.eval, Sem.run_pure]) ⟨Below.refl _ _, h52⟩⟩
          · intro ax wx hq hfr hd
            have h41 : (ErrIs 2) (ax.tmps.getD 41 undef) wx := hd 11 (by kernel_rfl) _ _ rfl rfl
            obtain ⟨x, ex⟩ := h41
            have exx := (getD_form _ _).symm.trans ex
            exact .inl ⟨wanted_free rfl, OpDoes.run (v := x) (w' := wx) (by unfold execOp; simp [go_sem, Act.eval, exx]) ⟨Below.refl _ _, trivial⟩⟩
          · intro ax wx hq hfr hd
            have h41 : (ErrIs 2) (ax.tmps.getD 41 undef) wx := hd 11 (by kernel_rfl) _ _ rfl rfl
            obtain ⟨x, ex⟩ := h41
            have exx := (getD_form _ _).symm.trans ex
            exact .inl ⟨wanted_free rfl, OpDoes.run (v := .int .i64 2) (w' := wx) (by unfold execOp; simp [go_sem, Act.eval, exx]) ⟨Below.refl _ _, rfl⟩⟩
          · intro ax wx hq hfr hd
            exact .inl ⟨wanted_free rfl, OpDoes.run (v := ax.tmps.getD 53 undef) (w' := wx) (by unfold execOp; simp only [Act.eval, Sem.run_pure]) ⟨Below.refl _ _, trivial⟩⟩
          · intro ax wx hq hfr hd
            have f54 : ax.tmps.getD 54 undef = .int .i64 2 := hd 13 (by kernel_rfl) _ _ rfl rfl
            have e54 := (getD_form _ _).symm.trans f54
            exact .inl ⟨wanted_free rfl, OpDoes.run (v := .int .i64 2) (w' := wx) (by unfold execOp; simp only [Act.eval, f54, Sem.run_pure]) ⟨Below.refl _ _, rfl⟩⟩
        · intro us wx hq hf
          have f8 : us 8 = .int .i64 2 := hf 15 _ _ rfl rfl
          have HQX := Lib.hid hq
          clear hf hq
          simp only [fillSlots, List.setIfInBounds_toArray, List.set_cons_succ, List.set_cons_zero, f8]
          clear f8
        -- DNE7
          have HQ3 : Hid (Q wq wx) := Lib.hid (HQ2.out.step HQX.out)
          clear HQX
          go_wp2_with fail
          -- REGION8
          refine wp_region_factsC (by kernel_rfl) (by kernel_rfl) (factsOf [.is (.slice (some ⟨b, o, none⟩) m c3), .is (.int .i64 (j : Nat)), .is (.pointer (some ⟨b, o + j * 39, none⟩)), .is (.agg (ndC na AA pa ca)), .is (.slice (some ⟨b, o, none⟩) m c3), .is (.int .i64 (j : Nat)), .is (.pointer (some ⟨b, o + j * 39, none⟩)), .is (.agg (ndC na AA pa ca)), .that (BoxN [(⟨na, AA, pa, ca⟩ : NdIn), (⟨na, AA, pa, ca⟩ : NdIn)]) (BoxN.q), .that (ErrIs 2) (ErrIs.q), .that (ErrIs 2) (ErrIs.q), .any, .is (.int .i64 2), .any, .is (.int .i64 2)]) (factsOf_stays _) ?_ ?_
          · refine ⟨?_, ?_, ?_, ?_, ?_, ?_, ?_, ?_, ?_, ?_, ?_, ?_, ?_, ?_, ?_, trivial⟩
            · intro ax wx hq hfr hd
              have f3 : ax.tmps.getD 3 undef = .slice (some ⟨b, o, none⟩) m c3 := (hfr 3 (by kernel_rfl)).trans rfl
              have e3 := (getD_form _ _).symm.trans f3
              exact .inl ⟨wanted_free rfl, OpDoes.run (v := .slice (some ⟨b, o, none⟩) m c3) (w' := wx) (by unfold execOp; simp only [Act.eval, f3, Sem.run_pure]) ⟨Below.refl _ _, rfl⟩⟩
            · intro ax wx hq hfr hd
              have f4 : ax.tmps.getD 4 undef = .int .i64 (j : Nat) := (hfr 4 (by kernel_rfl)).trans rfl
              have e4 := (getD_form _ _).symm.trans f4
              exact .inl ⟨wanted_free rfl, OpDoes.run (v := .int .i64 (j : Nat)) (w' := wx) (by unfold execOp; simp only [Act.eval, f4, Sem.run_pure]) ⟨Below.refl _ _, rfl⟩⟩
            · intro ax wx hq hfr hd
              have f56 : ax.tmps.getD 56 undef = .slice (some ⟨b, o, none⟩) m c3 := hd 0 (by kernel_rfl) _ _ rfl rfl
              have e56 := (getD_form _ _).symm.trans f56
              have f57 : ax.tmps.getD 57 undef = .int .i64 (j : Nat) := hd 1 (by kernel_rfl) _ _ rfl rfl
              have e57 := (getD_form _ _).symm.trans f57
              exact .inl ⟨wanted_free rfl, OpDoes.run (v := .pointer (some ⟨b, o + j * 39, none⟩)) (w' := wx) (by unfold execOp; simp [go_sem, Act.eval, e56, e57, add_addr, hjm]) ⟨Below.refl _ _, rfl⟩⟩
            · intro ax wx hq hfr hd
              have f58 : ax.tmps.getD 58 undef = .pointer (some ⟨b, o + j * 39, none⟩) := hd 2 (by kernel_rfl) _ _ rfl rfl
              have e58 := (getD_form _ _).symm.trans f58
              exact .inl ⟨wanted_free rfl, OpDoes.run (v := .agg (ndC na AA pa ca)) (w' := wx) (load_node (.tmp 58) rfl f58 (NodeAt.q HA.out HBL.out (HQ3.out.step hq))) ⟨Below.refl _ _, rfl⟩⟩
            · intro ax wx hq hfr hd
              have f3 : ax.tmps.getD 3 undef = .slice (some ⟨b, o, none⟩) m c3 := (hfr 3 (by kernel_rfl)).trans rfl
              have e3 := (getD_form _ _).symm.trans f3
              exact .inl ⟨wanted_free rfl, OpDoes.run (v := .slice (some ⟨b, o, none⟩) m c3) (w' := wx) (by unfold execOp; simp only [Act.eval, f3, Sem.run_pure]) ⟨Below.refl _ _, rfl⟩⟩
            · intro ax wx hq hfr hd
              have f4 : ax.tmps.getD 4 undef = .int .i64 (j : Nat) := (hfr 4 (by kernel_rfl)).trans rfl
              have e4 := (getD_form _ _).symm.trans f4
              exact .inl ⟨wanted_free rfl, OpDoes.run (v := .int .i64 (j : Nat)) (w' := wx) (by unfold execOp; simp only [Act.eval, f4, Sem.run_pure]) ⟨Below.refl _ _, rfl⟩⟩
            · intro ax wx hq hfr hd
              have f60 : ax.tmps.getD 60 undef = .slice (some ⟨b, o, none⟩) m c3 := hd 4 (by kernel_rfl) _ _ rfl rfl
              have e60 := (getD_form _ _).symm.trans f60
              have f61 : ax.tmps.getD 61 undef = .int .i64 (j : Nat) := hd 5 (by kernel_rfl) _ _ rfl rfl
              have e61 := (getD_form _ _).symm.trans f61
              exact .inl ⟨wanted_free rfl, OpDoes.run (v := .pointer (some ⟨b, o + j * 39, none⟩)) (w' := wx) (by unfold execOp; simp [go_sem, Act.eval, e60, e61, add_addr, hjm]) ⟨Below.refl _ _, rfl⟩⟩
            · intro ax wx hq hfr hd
              have f62 : ax.tmps.getD 62 undef = .pointer (some ⟨b, o + j * 39, none⟩) := hd 6 (by kernel_rfl) _ _ rfl rfl
              have e62 := (getD_form _ _).symm.trans f62
              exact .inl ⟨wanted_free rfl, OpDoes.run (v := .agg (ndC na AA pa ca)) (w' := wx) (load_node (.tmp 62) rfl f62 (NodeAt.q HA.out HBL.out (HQ3.out.step hq))) ⟨Below.refl _ _, rfl⟩⟩
            · intro ax wx hq hfr hd
              have f59 : ax.tmps.getD 59 undef = .agg (ndC na AA pa ca) := hd 3 (by kernel_rfl) _ _ rfl rfl
              have e59 := (getD_form _ _).symm.trans f59
              have f63 : ax.tmps.getD 63 undef = .agg (ndC na AA pa ca) := hd 7 (by kernel_rfl) _ _ rfl rfl
              have e63 := (getD_form _ _).symm.trans f63
              have hbx := nodesAt_box (T := 33) HN2.out (HQ3.out.step hq) HWM.out
              have hnl : ndsL [(⟨na, AA, pa, ca⟩ : NdIn), (⟨na, AA, pa, ca⟩ : NdIn)] = ndL na AA pa ca ++ ndL na AA pa ca := by simp [ndsL]
              rw [hnl] at hbx
              exact .inl ⟨wanted_free rfl, OpDoes.run (run_row_node2 (.tmp 59) (.tmp 63) rfl na AA pa ca na AA pa ca f59 f63 wx) ⟨(Q.refl wx).alloc _, _, rfl, hbx⟩⟩
            · intro ax wx hq hfr hd
              have h64 : (BoxN [(⟨na, AA, pa, ca⟩ : NdIn), (⟨na, AA, pa, ca⟩ : NdIn)]) (ax.tmps.getD 64 undef) wx := hd 8 (by kernel_rfl) _ _ rfl rfl
              exact .inl ⟨wanted_free rfl, OpDoes.call (f := 18) (args := #[ax.tmps.getD 64 undef]) (w' := wx) (by unfold execOp; simp [go_sem, Act.eval]) (encode_box h64 HWP.out (by simp) HWE.out)⟩
            · intro ax wx hq hfr hd
              have h65 : (ErrIs 2) (ax.tmps.getD 65 undef) wx := hd 9 (by kernel_rfl) _ _ rfl rfl
              exact .inl ⟨wanted_free rfl, OpDoes.run (v := ax.tmps.getD 65 undef) (w' := wx) (by unfold execOp; simp only [Act.eval, Sem.run_pure]) ⟨Below.refl _ _, h65⟩⟩
            · intro ax wx hq hfr hd
              have h55 : (ErrIs 2) (ax.tmps.getD 55 undef) wx := hd 10 (by kernel_rfl) _ _ rfl rfl
              obtain ⟨x, ex⟩ := h55
              have exx := (getD_form _ _).symm.trans ex
              exact .inl ⟨wanted_free rfl, OpDoes.run (v := x) (w' := wx) (by unfold execOp; simp [go_sem, Act.eval, exx]) ⟨Below.refl _ _, trivial⟩⟩
            · intro ax wx hq hfr hd
              have h55 : (ErrIs 2) (ax.tmps.getD 55 undef) wx := hd 10 (by kernel_rfl) _ _ rfl rfl
              obtain ⟨x, ex⟩ := h55
              have exx := (getD_form _ _).symm.trans ex
              exact .inl ⟨wanted_free rfl, OpDoes.run (v := .int .i64 2) (w' := wx) (by unfold execOp; simp [go_sem, Act.eval, exx]) ⟨Below.refl _ _, rfl⟩⟩
            · intro ax wx hq hfr hd
              exact .inl ⟨wanted_free rfl, OpDoes.run (v := ax.tmps.getD 66 undef) (w' := wx) (by unfold execOp; simp only [Act.eval, Sem.run_pure]) ⟨Below.refl _ _, trivial⟩⟩
            · intro ax wx hq hfr hd
              have f67 : ax.tmps.getD 67 undef = .int .i64 2 := hd 12 (by kernel_rfl) _ _ rfl rfl
              have e67 := (getD_form _ _).symm.trans f67
              exact .inl ⟨wanted_free rfl, OpDoes.run (v := .int .i64 2) (w' := wx) (by unfold execOp; simp only [Act.eval, f67, Sem.run_pure]) ⟨Below.refl _ _, rfl⟩⟩
          · intro us wx hq hf
            have f10 : us 10 = .int .i64 2 := hf 14 _ _ rfl rfl
            have HQX := Lib.hid hq
            clear hf hq
            simp only [fillSlots, List.setIfInBounds_toArray, List.set_cons_succ, List.set_cons_zero, f10]
            clear f10
          -- DNE8
            have HQ4 : Hid (Q wq wx) := Lib.hid (HQ3.out.step HQX.out)
            clear HQX
            have HA4 := Lib.hid (NodeAt.q HA.out HBL.out HQ4.out)
            have HXP : Hid (∀ z ∈ [(⟨na, AA, pa, ca⟩ : NdIn)], z.pn ≤ 300) := Lib.hid fun z hz => HUP.out z (by simp at hz; simp [hz])
            have HXM : Hid (∀ z ∈ [(⟨na, AA, pa, ca⟩ : NdIn)], z ∈ outs) := Lib.hid fun z hz => HUM.out z (by simp at hz; simp [hz])
            have hbx := nodesAt_box (T := 33) HN2.out HQ4.out HXM.out
            have hnl : ndsL [(⟨na, AA, pa, ca⟩ : NdIn)] = ndL na AA pa ca := by simp [ndsL]
            rw [hnl] at hbx
            have HEX : Hid (Calls Try.prog 18 #[.slice (some ⟨wx.heap.size, 0, none⟩) 1 1] _ _) := Lib.hid (encode_box (k := 0) ⟨_, rfl, hbx⟩ HXP.out (by simp) HXE.out)
            clear hbx hnl
            go_wp2_with (first
              | ((with_reducible refine gate 72 rfl ?_); go_loud (refine wpList_val rfl (load_node (.tmp 71) rfl rfl HA4.out) ?_))
              | ((with_reducible refine gate 73 rfl ?_); go_loud (refine wpList_val rfl (run_row_node (.tmp 72) rfl na AA pa ca rfl _) ?_))
              | (go_at_call 18; go_loud ((with_reducible refine (HEX.out).mono ?_); rintro e6 w6 ⟨v6, rfl, hq6, x6, rfl⟩; have HQ6 := Lib.hid hq6; clear hq6)))
            go_roundw
            case rel => exact ⟨j + 1, by omega, by go_num, Lib.hid (HQr.out.step (Q.step (HQ4.out.alloc _) HQ6.out))⟩
            case measure => simp [intOf]; omega
    · have hlt2 : ¬ ((j : Int) + 1 < m) := by omega
      have hj1 : IntKind.i64.wrap ((j : Int) + 1) = (j : Int) + 1 := IntWalk.i64_in _ (by omega)
      have HE := Lib.hid (encode_ok A3 m c3 outs wq HOL.out (by omega) (HNO.out.q HQr.out) (fun z hz => by have := HOP.out z hz; omega))
      have HEA := Lib.hid (congrArg Prod.snd (enc_all HRO.out HCO.out (by rw [HOL.out]; exact hml)))
      generalize encN (outs.map (·.n)) = r at HE HEA
      obtain ⟨r1, r2⟩ := r
      have hr2 : r2 = 0 := HEA.out
      subst hr2
      go_wp2_with (first
        | (go_at_call 18; go_loud ((with_reducible refine (HE.out).mono ?_); rintro e4 w4 ⟨A4, c4, n4, rfl, H4⟩))
        | (go_at_call 11; go_loud ((with_reducible refine (nodes_ok _).mono ?_); rintro e5 w5 ⟨rfl, hq5⟩; have HQ5 := Lib.hid hq5.out; clear hq5)))
      go_ret
      exact ⟨rfl, HQ3.out.step (HQr.out.step (H4.out.2.2.1.step HQ5.out))⟩
theorem nodeOrders_true (A : Option Addr) (n c : Nat) (zs : List NdIn) (w : World) (h : RowOfR w 39 (NdR w) A n c zs) :
    Calls Try.prog 5 #[.slice A n c] w fun e w' => e = .returned (.bool true) ∧ Below w.heap.size w w' := by
  obtain ⟨h1, h2⟩ := nodes_of_row h
  exact nodeOrders_walk A n c _ w h2 (by have := h.le; have := h.max; unfold maxLen at this; omega) h1
end
end Go.Proofs.Ytffenfhbiapefaa
