/- The walk through NodeFinds. -/
import Derived.Test.YtffenfhbiapefaaIdl
namespace Go.Proofs.Ytffenfhbiapefaa
set_option linter.unusedVariables false
set_option linter.unusedSimpArgs false
open Go.RowKit

theorem run_slice_lh_ok {P : Program} {o : Oper} {a : Act} (x lo hi : Operand) {t e : TypeId} (ho : o.op = .slice t x (some lo) (some hi) none) (ht : P.underlying t = some (.slice e)) {i : TypeInfo} (hi0 : P.info? e = some i) {s : Nat} (hs : i.size = s)
    {A : Option Addr} {n c : Nat} (hx : a.eval x = .slice A n c) {k k' : IntKind} {l h : Nat} (hl : a.eval lo = .int k (l : Int)) (hh : a.eval hi = .int k' (h : Int)) (hlh : l ≤ h) (hc : h ≤ c) (r : Nat) (hr : h - l = r) (w : World) : (execOp a.eval o).run P w = .ok (.value (.slice (cutA A c l s) r (c - l))) w := by
  subst hr
  have he : P.elem t = e := by simp [Program.elem, ht]
  have ht' : P.underlying t = some (.slice (P.elem t)) := by rw [he]; exact ht
  have h1 : (Instr.sliceAt t (.slice A n c) (some (.int k (l : Int))) (some (.int k' (h : Int))) none).run P w = .ok (.slice (cutA A c l s) (h - l) (c - l)) w := by
    rw [run_sliceAt_slice w t _ _ _ _ ht', run_slice_lh w t A n c ht' k k' l h (by omega) (by omega) (by omega), he, size_run hi0, hs]
    simp only [Result.andThen, sliced, Int.toNat_natCast]
    rfl
  unfold execOp
  simp only [ho, hx, hl, hh, Option.map, Sem.run_bind, h1, Result.andThen_ok, Sem.run_pure]
theorem wanted_off {o : Oper} {ops : Array Oper} {a : Act} {g d : Nat} {og : Oper} {b : Bool} (h : o.guard = some (g, !b)) (hg : ops[g]? = some og) (hd : og.dst = some d) (hv : a.tmps.getD d undef = .bool b) : Region.wanted o (yielded ops a.tmps) = false := by
  have h2 : a.tmps[d]? = some (.bool b) := by
    rw [Array.getD_eq_getD_getElem?] at hv
    rcases ht : a.tmps[d]? with _ | u
    · rw [ht] at hv; cases hv
    · rw [ht] at hv; exact congrArg some hv
  unfold Region.wanted
  rw [h]
  cases b <;> simp [yielded, hg, hd, h2]
/-- One node of a row, as a row. -/
theorem NodesAt.one {w : World} {A : Option Addr} {zs : List NdIn} (h : NodesAt w A zs) (k : Nat) (hk : k < zs.length) {c : Nat} (hc : zs.length ≤ c) : NodesAt w (cutA A c k 39) [zs[k]] := by
  refine ⟨?_, fun z hz => ?_, fun z hz => ?_⟩
  · have h1 := h.row.cut (c := c) (l := k) (s := 39) (by rw [ndsL_len]; omega)
    rw [ndsL_drop, List.drop_eq_getElem_cons hk] at h1
    have h2 : ndsL (zs[k] :: zs.drop (k + 1)) = ndsL [zs[k]] ++ ndsL (zs.drop (k + 1)) := by rw [← ndsL_append]; rfl
    rw [h2] at h1
    exact h1.prefix_
  · rw [List.mem_singleton.1 hz]; exact h.parts _ (List.getElem_mem hk)
  · rw [List.mem_singleton.1 hz]; exact h.fit _ (List.getElem_mem hk)
theorem firstAt_same {outs ys : List NdIn} (he : outs.map (·.n) = ys.map (·.n)) (name : ByteArray) : firstAt outs name = firstAt ys name := by
  have h : ∀ l : List NdIn, firstAt l name = ((l.map (·.n)).takeWhile fun n => !decide (n.name = name)).length := fun l => by
    unfold firstAt
    rw [List.takeWhile_map, List.length_map]
    rfl
  rw [h, h, he]
theorem partsN_same {outs ys : List NdIn} (he : outs.map (·.n) = ys.map (·.n)) : partsN outs = partsN ys := by
  have h : ∀ l : List NdIn, partsN l = (l.map (·.n)).flatMap fun n => if n.kind = 0 then n.ids else [] := fun l => by
    unfold partsN
    rw [List.flatMap_map]
  rw [h, h, he]
theorem treesN_same {outs ys : List NdIn} (he : outs.map (·.n) = ys.map (·.n)) : treesN outs = treesN ys := by
  have h : ∀ l : List NdIn, treesN l = (l.map (·.n)).flatMap fun n => if n.kind = 1 then [n.tree] else [] := fun l => by
    unfold treesN
    rw [List.flatMap_map]
  rw [h, h, he]
theorem get_same {outs ys : List NdIn} (he : outs.map (·.n) = ys.map (·.n)) (k : Nat) (h1 : k < outs.length) (h2 : k < ys.length) : outs[k].n = ys[k].n := by
  have h3 : (outs.map (·.n))[k]? = (ys.map (·.n))[k]? := by rw [he]
  rw [List.getElem?_map, List.getElem?_map, List.getElem?_eq_getElem h1, List.getElem?_eq_getElem h2] at h3
  exact Option.some.inj h3
theorem partsN_at {ys : List NdIn} {j : Nat} (hj : j < ys.length) (h0 : ys[j].n.kind = 0) {q : Nat} (hq : q < ys[j].n.ids.length) : ∃ h : (partsN (ys.take j)).length + q < (partsN ys).length, (partsN ys)[(partsN (ys.take j)).length + q] = ys[j].n.ids[q] := by
  have e : partsN ys = partsN (ys.take j) ++ (ys[j].n.ids ++ partsN (ys.drop (j + 1))) := by
    have h1 : partsN ys = partsN (ys.take (j + 1)) ++ partsN (ys.drop (j + 1)) := by
      unfold partsN
      rw [← List.flatMap_append, List.take_append_drop]
    rw [h1, partsN_take hj, if_pos h0, List.append_assoc]
  refine ⟨by rw [e, List.length_append, List.length_append]; omega, ?_⟩
  have h2 : (partsN ys)[(partsN (ys.take j)).length + q]? = some ys[j].n.ids[q] := by
    rw [e, List.getElem?_append_right (by omega), Nat.add_sub_cancel_left, List.getElem?_append_left hq, List.getElem?_eq_getElem hq]
  exact (List.getElem?_eq_some_iff.1 h2).2
theorem treesN_at {ys : List NdIn} {j : Nat} (hj : j < ys.length) (h0 : ys[j].n.kind = 1) : ∃ h : (treesN (ys.take j)).length < (treesN ys).length, (treesN ys)[(treesN (ys.take j)).length] = ys[j].n.tree := by
  have e : treesN ys = treesN (ys.take j) ++ ([ys[j].n.tree] ++ treesN (ys.drop (j + 1))) := by
    have h1 : treesN ys = treesN (ys.take (j + 1)) ++ treesN (ys.drop (j + 1)) := by
      unfold treesN
      rw [← List.flatMap_append, List.take_append_drop]
    rw [h1, treesN_take hj, if_pos h0, List.append_assoc]
  refine ⟨by rw [e, List.length_append, List.length_append, List.length_singleton]; omega, ?_⟩
  have h2 : (treesN ys)[(treesN (ys.take j)).length]? = some ys[j].n.tree := by
    rw [e, List.getElem?_append_right (by omega), Nat.sub_self]; rfl
  exact (List.getElem?_eq_some_iff.1 h2).2
/-- A row that reads as these nodes. -/
def RowAt (k : Nat) (zs : List NdIn) (u : Value) (w : World) : Prop := ∃ A c, u = .slice A k c ∧ NodesAt w A zs
theorem RowAt.q {k : Nat} {zs : List NdIn} (u : Value) (w w' : World) (h : RowAt k zs u w) (hq : Below w.heap.size w w') : RowAt k zs u w' := by
  obtain ⟨A, c, h1, h2⟩ := h
  exact ⟨A, c, h1, h2.q hq⟩
theorem from_box {z : NdIn} {u : Value} {w : World} (h : BoxN [z] u w) :
    Calls Try.prog 20 #[u] w fun e w' => ∃ v, e = .returned v ∧ Below w.heap.size w w' ∧ RowAt 1 [z] v w' := by
  obtain ⟨g, rfl, h2⟩ := h
  refine (from_ok (some ⟨g, 0, none⟩) 1 1 [z] w rfl (by omega) h2).mono fun e w' ⟨v, he, hr⟩ => ?_
  obtain ⟨A6, c6, rfl, hN6⟩ := hr.out.nodesAt h2.parts h2.fit
  exact ⟨_, he, hr.out.q, A6, c6, rfl, hN6⟩
theorem same_row {z y : NdIn} {u : Value} {w : World} (h : RowAt 1 [z] u w) {A : Option Addr} {c : Nat} (h2 : NodesAt w A [y]) (he : z.n = y.n) :
    Calls Try.prog 19 #[u, .slice A 1 c] w fun e w' => ∃ v, e = .returned v ∧ Below w.heap.size w w' ∧ v = .bool true := by
  obtain ⟨A1, c1, rfl, h1⟩ := h
  exact (refSame_ok A1 A 1 c1 c [z] [y] w rfl (by simp [he]) (by omega) h1 h2).mono fun e w' ⟨h3, h4⟩ => ⟨_, h3, h4.out, rfl⟩
theorem find_any (A0 : Option Addr) (nn nc : Nat) (zs : List NdIn) (name : ByteArray) (w : World) (hz : zs.length = nn) (hn : nn ≤ 9223372036854775807) (h : NodesAt w A0 zs) (k : Nat) (hk : firstAt zs name = k) (okb : Bool) (ho : decide (k < nn) = okb) :
    Calls Try.prog 22 #[.string name, .slice A0 nn nc] w fun e w' => ∃ z : NdIn, e = .returned (.tuple #[.agg (ndC z.n z.A z.pn z.pc), .bool okb]) ∧ Hid ((k < nn → ∃ h : k < zs.length, zs[k] = z) ∧ Q w w') := by
  subst hk
  refine (find_ok A0 nn nc zs name w hz hn h).mono fun e w' ⟨h1, h2⟩ => ?_
  rcases h1 with ⟨h3, rfl⟩ | ⟨h3, rfl⟩
  · have : okb = true := by rw [← ho]; exact decide_eq_true (by omega)
    subst this
    exact ⟨_, rfl, Lib.hid ⟨fun _ => ⟨h3, rfl⟩, h2⟩⟩
  · have : okb = false := by rw [← ho]; exact decide_eq_false (by omega)
    subst this
    exact ⟨⟨noNd, none, 0, 0⟩, rfl, Lib.hid ⟨fun h => absurd h (by omega), h2⟩⟩
set_option maxHeartbeats 16000000 in
set_option maxRecDepth 100000 in
theorem nodeFinds_walk (A0 : Option Addr) (nn nc : Nat) (zs : List NdIn) (name : ByteArray) (w : World) (hz : zs.length = nn) (hn : nn ≤ 9223372036854775807) (h : NodesAt w A0 zs) :
    Calls Try.prog 6 #[.slice A0 nn nc, .string name] w fun e w' => e = .returned (.bool true) ∧ Q w w' := by
  obtain ⟨iN, hiN, hzN0, hzN1, hzN2⟩ := info_parts infoR
  have HFW : Hid (Calls Try.prog 16 #[.slice A0 nn nc] w fun e w' => ∃ A c, e = .returned (.slice A (fewL zs).length c) ∧ Hid (NodesAt w' A (fewL zs) ∧ Q w w' ∧ (fewL zs).length ≤ c)) := Lib.hid ((few_ok A0 nn nc zs w hz hn h).mono fun e w' ⟨v, he, hr⟩ => by
    obtain ⟨A, c, rfl, hN⟩ := hr.out.nodesAt (fun z hz' => h.parts z (fewL_mem z hz')) (fun z hz' => h.fit z (fewL_mem z hz'))
    exact ⟨A, c, he, Lib.hid ⟨hN, hr.out.q, (own_capS hr.out.own).1⟩⟩)
  have HP : Hid (∀ z ∈ fewL zs, z.pn ≤ 300) := Lib.hid fewL_fits
  have HL : Hid ((fewL zs).length ≤ 60) := Lib.hid fewL_len
  clear hz hn h
  generalize fewL zs = ys at *
  obtain ⟨m, hm⟩ : ∃ m, m = ys.length := ⟨_, rfl⟩
  rw [← hm] at HFW HL
  have HM := Lib.hid hm.symm
  clear hm
  have hml := HL.out
  obtain ⟨k, hk⟩ : ∃ k, k = firstAt ys name := ⟨_, rfl⟩
  have HK := Lib.hid hk
  have hkm : k ≤ m := by
    rw [hk, ← HM.out]
    exact (List.takeWhile_prefix _).length_le
  obtain ⟨okb, hok⟩ : ∃ okb, decide (k < m) = okb := ⟨_, rfl⟩
  have HOK := Lib.hid hok
  clear hk hok
  go_enter Try.func6, Try.ntmps6
  go_upto_block 0 with (first
    | (go_at_call 16; go_loud ((with_reducible refine (HFW.out).mono ?_); rintro e1 w1 ⟨A1, c1, rfl, H1⟩; have HT := Lib.hid (to_ok A1 m c1 ys w1 HM.out (by omega) H1.out.1 (fun z hz => by have := HP.out z hz; omega))))
    | (go_at_call 10; go_loud ((with_reducible refine (HT.out).mono ?_); rintro e2 w2 ⟨v2, outs, rfl, H2⟩; obtain ⟨A2, c2, rfl, HN2⟩ := H2.out.1.nodesAt (fits_same H2.out.2 H1.out.1.fit); have hol : outs.length = m := (Made.len H2.out.2).trans HM.out; rw [hol]; have HON := Lib.hid (map_n H2.out.2); have HOL := Lib.hid hol; have HNO := Lib.hid HN2; have HF := Lib.hid (find_any A2 m c2 outs name w2 hol (by omega) HN2 k ((firstAt_same HON.out name).trans HK.out.symm) okb HOK.out); clear HN2 hol))
    | (go_at_call 22; go_loud ((with_reducible refine (HF.out).mono ?_); rintro e3 w3 ⟨⟨nf, Af, pf, cf⟩, rfl, H3⟩; have HQ3 := Lib.hid (H1.out.2.1.step (H2.out.1.q.step H3.out.2))))
    | ((with_reducible refine gate 5 rfl ?_); go_loud (refine wpList_alloc_row rfl 33 rfl _ (zeroN _) 39 _ (ndC_size _ _ _ _) (ndC_get _ _ _ _) ?_; intro w4 hr4 hx4; have H4 := Lib.hid (And.intro hr4 (hx4.q (Q.refl w3))); clear hr4 hx4))
    | ((with_reducible refine gate0 rfl ?_); go_loud (refine wpList_store_all rfl 33 (.tmp 5) (.tmp 21) rfl w3.heap.size rfl _ rfl 39 sizeN _ (nd_agg nf Af pf cf) (fun i _ => ndF_one _ _ _ _ i) 33 _ H4.out.1 ?_; intro w5 hr5 hp5; have H5 := Lib.hid (And.intro hr5 (hp5.q H4.out.2 (Nat.le_refl _))); clear hr5 hp5)))
  have HB5 := Lib.hid (NodeAt.of_row H5.out.1)
  have HBL5 : Hid (w3.heap.size < w5.heap.size) := Lib.hid H5.out.1.lt
  have HQ5 : Hid (Q w w5) := Lib.hid (HQ3.out.step H5.out.2)
  have HQ15 : Hid (Q w1 w5) := Lib.hid (H2.out.1.q.step (H3.out.2.step H5.out.2))
  have HQ25 : Hid (Q w2 w5) := Lib.hid (H3.out.2.step H5.out.2)
  have HFD : Hid (k < m → ∃ h : k < outs.length, outs[k] = ⟨nf, Af, pf, cf⟩) := Lib.hid H3.out.1
  have HN1 := Lib.hid (H1.out.1.q HQ15.out)
  have HN2 := Lib.hid (HNO.out.q HQ25.out)
  have HC1 : Hid (m ≤ c1) := Lib.hid H1.out.2.2
  clear HNO HT HF H3 H4 H5 H2 H1 HFW HQ15 HQ25 HQ3
  go_cut [7] (fun u wx => u = .int .i64 (k : Nat) ∧ wx = w5)
  case first =>
    go_wp2_with fail
    go_loopw [7] (fun i wr => ∃ j : Nat, j ≤ m ∧ i = .int .i64 j ∧ Hid (∀ i (h : i < j) (h2 : i < ys.length), (!decide (ys[i].n.name = name)) = true) ∧ wr = w5) (fun i _ => m - (intOf i).toNat)
    case atStart => exact ⟨0, by omega, rfl, fun i h => absurd h (by omega), rfl⟩
    case round =>
      obtain ⟨j, hj, rfl, HJ, rfl⟩ := hrel
      by_cases hjl : j < m
      · have hjy : j < ys.length := by rw [HM.out]; exact hjl
        obtain ⟨b2, o2, e2, hb2, hat2⟩ := HN1.out.at_ j hjy
        have hn2 := hat2.name
        obtain ⟨lb, hlb⟩ : ∃ lb, lb = decide (ys[j].n.name = name) := ⟨_, rfl⟩
        have hlb2 : (ys[j].n.name.toList == name.toList) = lb := by rw [hlb]; exact eqS_dec _ _
        have HLB : Hid (∃ h : j < ys.length, decide (ys[j].n.name = name) = lb) := Lib.hid ⟨hjy, hlb.symm⟩
        clear hlb hat2 hb2
        generalize ys[j].n.name = s2 at hn2 hlb2
        clear hjy
        subst e2
        have hjm : (j : Int) < m := by omega
        cases lb
        · go_wp2_with fail
          go_roundw
          case rel =>
            refine ⟨j + 1, by omega, by go_num, fun i hi h2 => ?_, trivial⟩
            rcases Nat.lt_or_ge i j with h | h
            · exact HJ.out i h h2
            · obtain rfl : i = j := by omega
              obtain ⟨h1, h3⟩ := HLB.out
              rw [h3]; rfl
          case measure => simp [intOf]; omega
        · have HE : Hid (k = j) := Lib.hid (by
            obtain ⟨h1, h3⟩ := HLB.out
            rw [HK.out]
            exact takeWhile_at _ ys j h1 (fun i hi => HJ.out i hi (by omega)) (by rw [h3]; rfl))
          go_wp2_with fail
          go_meet
          exact ⟨by rw [HE.out], rfl⟩
      · obtain rfl : j = m := by omega
        have HE : Hid (k = j) := Lib.hid (by
          rw [HK.out, ← HM.out]
          exact takeWhile_all _ ys fun i hi => HJ.out i (by rw [HM.out] at hi; exact hi) hi)
        go_wp2_with fail
        go_meet
        exact ⟨by rw [HE.out], rfl⟩
  case rest =>
  obtain ⟨rfl, rfl⟩ := hcut
  go_wp2_with fail
  go_cut [62] (fun u wx => u = .bool false ∧ Hid (Q wc wx))
  case first =>
    by_cases hlt : k < m
    · have hok : okb = true := by rw [← HOK.out]; exact decide_eq_true hlt
      subst hok
      obtain ⟨hko, heo⟩ := HFD.out hlt
      have hky : k < ys.length := by rw [HM.out]; exact hlt
      have HMEM : Hid ((⟨nf, Af, pf, cf⟩ : NdIn) ∈ outs) := Lib.hid (by rw [← heo]; exact List.getElem_mem hko)
      have HNE : Hid ((⟨nf, Af, pf, cf⟩ : NdIn).n = ys[k].n) := Lib.hid (by rw [← heo]; exact get_same HON.out k hko hky)
      have HN1K := Lib.hid (HN1.out.one k hky (c := c1) (by rw [HM.out]; exact HC1.out))
      have HKC : Hid (k + 1 ≤ c1) := Lib.hid (by have := HC1.out; omega)
      generalize ys[k] = yk at *
      have hki : (k : Int) < m := by omega
      have hkw : IntKind.i64.wrap ((k : Int) + 1) = (k : Int) + 1 := IntWalk.i64_in _ (by omega)
      clear hko heo hky
      -- REGA
      refine wp_region_factsC (by kernel_rfl) (by kernel_rfl) (factsOf [.is (.bool true), .is (.bool false), .is (.bool false), .is (.bool true), .is (.int .i64 (k : Nat)), .is (.slice A1 m c1), .is (.int .i64 (m : Nat)), .is (.bool true), .is (.bool false), .is (.bool false), .is (.bool false), .is (.bool true), .is (.bool true), .is (.agg (ndC nf Af pf cf)), .that (BoxN [(⟨nf, Af, pf, cf⟩ : NdIn)]) (BoxN.q), .that (RowAt 1 [(⟨nf, Af, pf, cf⟩ : NdIn)]) (RowAt.q), .is (.slice A1 m c1), .is (.int .i64 (k : Nat)), .is (.int .i64 (k : Nat)), .is (.int .i64 ((k + 1 : Nat) : Int)), .is (.slice (cutA A1 c1 k 39) 1 (c1 - k)), .is (.bool true), .is (.bool false), .is (.bool false), .is (.bool false)]) (factsOf_stays _) ?_ ?_
      · refine ⟨?_, ?_, ?_, ?_, ?_, ?_, ?_, ?_, ?_, ?_, ?_, ?_, ?_, ?_, ?_, ?_, ?_, ?_, ?_, ?_, ?_, ?_, ?_, ?_, ?_, trivial⟩
        · intro ax wx hq hfr hd
          exact .inl ⟨wanted_free rfl, OpDoes.call (f := 11) (args := #[]) (w' := wx) (by unfold execOp; simp [go_sem, Act.eval]) ((nodes_ok wx).mono fun e w2 h => ⟨_, h.1, h.2.out, rfl⟩)⟩
        · intro ax wx hq hfr hd
          have f38 : ax.tmps.getD 38 undef = .bool true := hd 0 (by kernel_rfl) _ _ rfl rfl
          have e38 := (getD_form _ _).symm.trans f38
          exact .inl ⟨wanted_free rfl, OpDoes.run (v := .bool false) (w' := wx) (by unfold execOp; simp [go_sem, Act.eval, e38]) ⟨Below.refl _ _, rfl⟩⟩
        · intro ax wx hq hfr hd
          have f39 : ax.tmps.getD 39 undef = .bool false := hd 1 (by kernel_rfl) _ _ rfl rfl
          have e39 := (getD_form _ _).symm.trans f39
          exact .inl ⟨wanted_free rfl, OpDoes.run (v := .bool false) (w' := wx) (by unfold execOp; simp only [Act.eval, f39, Sem.run_pure]) ⟨Below.refl _ _, rfl⟩⟩
        · intro ax wx hq hfr hd
          have f6 : ax.tmps.getD 6 undef = .bool true := (hfr 6 (by kernel_rfl)).trans rfl
          have e6 := (getD_form _ _).symm.trans f6
          exact .inl ⟨wanted_on rfl rfl rfl (hd 2 (by kernel_rfl) _ _ rfl rfl), OpDoes.run (v := .bool true) (w' := wx) (by unfold execOp; simp only [Act.eval, f6, Sem.run_pure]) ⟨Below.refl _ _, rfl⟩⟩
        · intro ax wx hq hfr hd
          have f7 : ax.tmps.getD 7 undef = .int .i64 (k : Nat) := (hfr 7 (by kernel_rfl)).trans rfl
          have e7 := (getD_form _ _).symm.trans f7
          exact .inl ⟨wanted_on rfl rfl rfl (hd 2 (by kernel_rfl) _ _ rfl rfl), OpDoes.run (v := .int .i64 (k : Nat)) (w' := wx) (by unfold execOp; simp only [Act.eval, f7, Sem.run_pure]) ⟨Below.refl _ _, rfl⟩⟩
        · intro ax wx hq hfr hd
          have f0 : ax.tmps.getD 0 undef = .slice A1 m c1 := (hfr 0 (by kernel_rfl)).trans rfl
          have e0 := (getD_form _ _).symm.trans f0
          exact .inl ⟨wanted_on rfl rfl rfl (hd 2 (by kernel_rfl) _ _ rfl rfl), OpDoes.run (v := .slice A1 m c1) (w' := wx) (by unfold execOp; simp only [Act.eval, f0, Sem.run_pure]) ⟨Below.refl _ _, rfl⟩⟩
        · intro ax wx hq hfr hd
          have f43 : ax.tmps.getD 43 undef = .slice A1 m c1 := hd 5 (by kernel_rfl) _ _ rfl rfl
          have e43 := (getD_form _ _).symm.trans f43
          exact .inl ⟨wanted_on rfl rfl rfl (hd 2 (by kernel_rfl) _ _ rfl rfl), OpDoes.run (v := .int .i64 (m : Nat)) (w' := wx) (by unfold execOp; simp [go_sem, Act.eval, e43]) ⟨Below.refl _ _, rfl⟩⟩
        · intro ax wx hq hfr hd
          have f42 : ax.tmps.getD 42 undef = .int .i64 (k : Nat) := hd 4 (by kernel_rfl) _ _ rfl rfl
          have e42 := (getD_form _ _).symm.trans f42
          have f44 : ax.tmps.getD 44 undef = .int .i64 (m : Nat) := hd 6 (by kernel_rfl) _ _ rfl rfl
          have e44 := (getD_form _ _).symm.trans f44
          exact .inl ⟨wanted_on rfl rfl rfl (hd 2 (by kernel_rfl) _ _ rfl rfl), OpDoes.run (v := .bool true) (w' := wx) (by unfold execOp; simp [go_sem, Act.eval, e42, e44, hki]) ⟨Below.refl _ _, rfl⟩⟩
        · intro ax wx hq hfr hd
          have f41 : ax.tmps.getD 41 undef = .bool true := hd 3 (by kernel_rfl) _ _ rfl rfl
          have e41 := (getD_form _ _).symm.trans f41
          have f45 : ax.tmps.getD 45 undef = .bool true := hd 7 (by kernel_rfl) _ _ rfl rfl
          have e45 := (getD_form _ _).symm.trans f45
          exact .inl ⟨wanted_on rfl rfl rfl (hd 2 (by kernel_rfl) _ _ rfl rfl), OpDoes.run (v := .bool false) (w' := wx) (by unfold execOp; simp [go_sem, Act.eval, e41, e45]) ⟨Below.refl _ _, rfl⟩⟩
        · intro ax wx hq hfr hd
          have f40 : ax.tmps.getD 40 undef = .bool false := hd 2 (by kernel_rfl) _ _ rfl rfl
          have e40 := (getD_form _ _).symm.trans f40
          have f46 : ax.tmps.getD 46 undef = .bool false := hd 8 (by kernel_rfl) _ _ rfl rfl
          have e46 := (getD_form _ _).symm.trans f46
          exact .inl ⟨wanted_free rfl, OpDoes.run (v := .bool false) (w' := wx) (by unfold execOp; simp [go_sem, Act.eval, e40, e46]) ⟨Below.refl _ _, rfl⟩⟩
        · intro ax wx hq hfr hd
          have f47 : ax.tmps.getD 47 undef = .bool false := hd 9 (by kernel_rfl) _ _ rfl rfl
          have e47 := (getD_form _ _).symm.trans f47
          exact .inl ⟨wanted_free rfl, OpDoes.run (v := .bool false) (w' := wx) (by unfold execOp; simp only [Act.eval, f47, Sem.run_pure]) ⟨Below.refl _ _, rfl⟩⟩
        · intro ax wx hq hfr hd
          have f6 : ax.tmps.getD 6 undef = .bool true := (hfr 6 (by kernel_rfl)).trans rfl
          have e6 := (getD_form _ _).symm.trans f6
          exact .inl ⟨wanted_on rfl rfl rfl (hd 10 (by kernel_rfl) _ _ rfl rfl), OpDoes.run (v := .bool true) (w' := wx) (by unfold execOp; simp only [Act.eval, f6, Sem.run_pure]) ⟨Below.refl _ _, rfl⟩⟩
        · intro ax wx hq hfr hd
          have f49 : ax.tmps.getD 49 undef = .bool true := hd 11 (by kernel_rfl) _ _ rfl rfl
          have e49 := (getD_form _ _).symm.trans f49
          exact .inl ⟨wanted_on rfl rfl rfl (hd 10 (by kernel_rfl) _ _ rfl rfl), OpDoes.run (v := .bool true) (w' := wx) (by unfold execOp; simp only [Act.eval, f49, Sem.run_pure]) ⟨Below.refl _ _, rfl⟩⟩
        · intro ax wx hq hfr hd
          have f5 : ax.tmps.getD 5 undef = .pointer (some ⟨w3.heap.size, 0, none⟩) := (hfr 5 (by kernel_rfl)).trans rfl
          have e5 := (getD_form _ _).symm.trans f5
          exact .inl ⟨wanted_on rfl rfl rfl (hd 12 (by kernel_rfl) _ _ rfl rfl), OpDoes.run (v := .agg (ndC nf Af pf cf)) (w' := wx) (load_node (.tmp 5) rfl f5 (NodeAt.q HB5.out HBL5.out hq)) ⟨Below.refl _ _, rfl⟩⟩
        · intro ax wx hq hfr hd
          have f51 : ax.tmps.getD 51 undef = .agg (ndC nf Af pf cf) := hd 13 (by kernel_rfl) _ _ rfl rfl
          have e51 := (getD_form _ _).symm.trans f51
          have hbx := nodesAt_box (T := 33) (ps := [(⟨nf, Af, pf, cf⟩ : NdIn)]) HN2.out hq (fun z hz => by rw [List.mem_singleton.1 hz]; exact HMEM.out)
          have hnl : ndsL [(⟨nf, Af, pf, cf⟩ : NdIn)] = ndL nf Af pf cf := by simp [ndsL]
          rw [hnl] at hbx
          exact .inl ⟨wanted_on rfl rfl rfl (hd 12 (by kernel_rfl) _ _ rfl rfl), OpDoes.run (run_row_node (.tmp 51) rfl nf Af pf cf f51 wx) ⟨(Q.refl wx).alloc _, _, rfl, hbx⟩⟩
        · intro ax wx hq hfr hd
          have h52 : (BoxN [(⟨nf, Af, pf, cf⟩ : NdIn)]) (ax.tmps.getD 52 undef) wx := hd 14 (by kernel_rfl) _ _ rfl rfl
          exact .inl ⟨wanted_on rfl rfl rfl (hd 12 (by kernel_rfl) _ _ rfl rfl), OpDoes.call (f := 20) (args := #[ax.tmps.getD 52 undef]) (w' := wx) (by unfold execOp; simp [go_sem, Act.eval]) (from_box h52)⟩
        · intro ax wx hq hfr hd
          have f0 : ax.tmps.getD 0 undef = .slice A1 m c1 := (hfr 0 (by kernel_rfl)).trans rfl
          have e0 := (getD_form _ _).symm.trans f0
          exact .inl ⟨wanted_on rfl rfl rfl (hd 12 (by kernel_rfl) _ _ rfl rfl), OpDoes.run (v := .slice A1 m c1) (w' := wx) (by unfold execOp; simp only [Act.eval, f0, Sem.run_pure]) ⟨Below.refl _ _, rfl⟩⟩
        · intro ax wx hq hfr hd
          have f7 : ax.tmps.getD 7 undef = .int .i64 (k : Nat) := (hfr 7 (by kernel_rfl)).trans rfl
          have e7 := (getD_form _ _).symm.trans f7
          exact .inl ⟨wanted_on rfl rfl rfl (hd 12 (by kernel_rfl) _ _ rfl rfl), OpDoes.run (v := .int .i64 (k : Nat)) (w' := wx) (by unfold execOp; simp only [Act.eval, f7, Sem.run_pure]) ⟨Below.refl _ _, rfl⟩⟩
        · intro ax wx hq hfr hd
          have f7 : ax.tmps.getD 7 undef = .int .i64 (k : Nat) := (hfr 7 (by kernel_rfl)).trans rfl
          have e7 := (getD_form _ _).symm.trans f7
          exact .inl ⟨wanted_on rfl rfl rfl (hd 12 (by kernel_rfl) _ _ rfl rfl), OpDoes.run (v := .int .i64 (k : Nat)) (w' := wx) (by unfold execOp; simp only [Act.eval, f7, Sem.run_pure]) ⟨Below.refl _ _, rfl⟩⟩
        · intro ax wx hq hfr hd
          have f56 : ax.tmps.getD 56 undef = .int .i64 (k : Nat) := hd 18 (by kernel_rfl) _ _ rfl rfl
          have e56 := (getD_form _ _).symm.trans f56
          exact .inl ⟨wanted_on rfl rfl rfl (hd 12 (by kernel_rfl) _ _ rfl rfl), OpDoes.run (v := .int .i64 ((k + 1 : Nat) : Int)) (w' := wx) (by unfold execOp; simp [go_sem, Act.eval, e56, hkw]) ⟨Below.refl _ _, rfl⟩⟩
        · intro ax wx hq hfr hd
          have f54 : ax.tmps.getD 54 undef = .slice A1 m c1 := hd 16 (by kernel_rfl) _ _ rfl rfl
          have e54 := (getD_form _ _).symm.trans f54
          have f55 : ax.tmps.getD 55 undef = .int .i64 (k : Nat) := hd 17 (by kernel_rfl) _ _ rfl rfl
          have e55 := (getD_form _ _).symm.trans f55
          have f57 : ax.tmps.getD 57 undef = .int .i64 ((k + 1 : Nat) : Int) := hd 19 (by kernel_rfl) _ _ rfl rfl
          have e57 := (getD_form _ _).symm.trans f57
          exact .inl ⟨wanted_on rfl rfl rfl (hd 12 (by kernel_rfl) _ _ rfl rfl), OpDoes.run (run_slice_lh_ok (.tmp 54) (.tmp 55) (.tmp 57) rfl Try.underlying29 hiN hzN1 f54 f55 f57 (Nat.le_succ _) HKC.out 1 (Nat.add_sub_cancel_left _ _) wx) ⟨Below.refl _ _, rfl⟩⟩
        · intro ax wx hq hfr hd
          have h53 : (RowAt 1 [(⟨nf, Af, pf, cf⟩ : NdIn)]) (ax.tmps.getD 53 undef) wx := hd 15 (by kernel_rfl) _ _ rfl rfl
          have f58 : ax.tmps.getD 58 undef = .slice (cutA A1 c1 k 39) 1 (c1 - k) := hd 20 (by kernel_rfl) _ _ rfl rfl
          have e58 := (getD_form _ _).symm.trans f58
          exact .inl ⟨wanted_on rfl rfl rfl (hd 12 (by kernel_rfl) _ _ rfl rfl), OpDoes.call (f := 19) (args := #[ax.tmps.getD 53 undef, .slice (cutA A1 c1 k 39) 1 (c1 - k)]) (w' := wx) (by unfold execOp; simp [go_sem, Act.eval, e58]) (same_row h53 (HN1K.out.q hq) HNE.out)⟩
        · intro ax wx hq hfr hd
          have f59 : ax.tmps.getD 59 undef = .bool true := hd 21 (by kernel_rfl) _ _ rfl rfl
          have e59 := (getD_form _ _).symm.trans f59
          exact .inl ⟨wanted_on rfl rfl rfl (hd 12 (by kernel_rfl) _ _ rfl rfl), OpDoes.run (v := .bool false) (w' := wx) (by unfold execOp; simp [go_sem, Act.eval, e59]) ⟨Below.refl _ _, rfl⟩⟩
        · intro ax wx hq hfr hd
          have f50 : ax.tmps.getD 50 undef = .bool true := hd 12 (by kernel_rfl) _ _ rfl rfl
          have e50 := (getD_form _ _).symm.trans f50
          have f60 : ax.tmps.getD 60 undef = .bool false := hd 22 (by kernel_rfl) _ _ rfl rfl
          have e60 := (getD_form _ _).symm.trans f60
          exact .inl ⟨wanted_on rfl rfl rfl (hd 10 (by kernel_rfl) _ _ rfl rfl), OpDoes.run (v := .bool false) (w' := wx) (by unfold execOp; simp [go_sem, Act.eval, e50, e60]) ⟨Below.refl _ _, rfl⟩⟩
        · intro ax wx hq hfr hd
          have f48 : ax.tmps.getD 48 undef = .bool false := hd 10 (by kernel_rfl) _ _ rfl rfl
          have e48 := (getD_form _ _).symm.trans f48
          have f61 : ax.tmps.getD 61 undef = .bool false := hd 23 (by kernel_rfl) _ _ rfl rfl
          have e61 := (getD_form _ _).symm.trans f61
          exact .inl ⟨wanted_free rfl, OpDoes.run (v := .bool false) (w' := wx) (by unfold execOp; simp [go_sem, Act.eval, e48, e61]) ⟨Below.refl _ _, rfl⟩⟩
      · intro us wx hq hf
        have f62 : us 62 = .bool false := hf 24 _ _ rfl rfl
        have HQX := Lib.hid hq
        clear hf hq
        simp only [fillSlots, List.setIfInBounds_toArray, List.set_cons_succ, List.set_cons_zero, f62]
        clear f62
      -- DNEA
        go_wp2_with fail
        go_meet
        exact ⟨rfl, HQX⟩
    · have hok : okb = false := by rw [← HOK.out]; exact decide_eq_false hlt
      subst hok
      have hki : ¬ ((k : Int) < m) := by omega
      -- REGB
      refine wp_region_factsC (by kernel_rfl) (by kernel_rfl) (factsOf [.is (.bool true), .is (.bool false), .is (.bool false), .is (.bool false), .is (.int .i64 (k : Nat)), .is (.slice A1 m c1), .is (.int .i64 (m : Nat)), .is (.bool false), .is (.bool false), .is (.bool false), .is (.bool false), .is (.bool false), .is (.bool false), .any, .any, .any, .any, .any, .any, .any, .any, .any, .any, .is (.bool false), .is (.bool false)]) (factsOf_stays _) ?_ ?_
      · refine ⟨?_, ?_, ?_, ?_, ?_, ?_, ?_, ?_, ?_, ?_, ?_, ?_, ?_, ?_, ?_, ?_, ?_, ?_, ?_, ?_, ?_, ?_, ?_, ?_, ?_, trivial⟩
        · intro ax wx hq hfr hd
          exact .inl ⟨wanted_free rfl, OpDoes.call (f := 11) (args := #[]) (w' := wx) (by unfold execOp; simp [go_sem, Act.eval]) ((nodes_ok wx).mono fun e w2 h => ⟨_, h.1, h.2.out, rfl⟩)⟩
        · intro ax wx hq hfr hd
          have f38 : ax.tmps.getD 38 undef = .bool true := hd 0 (by kernel_rfl) _ _ rfl rfl
          have e38 := (getD_form _ _).symm.trans f38
          exact .inl ⟨wanted_free rfl, OpDoes.run (v := .bool false) (w' := wx) (by unfold execOp; simp [go_sem, Act.eval, e38]) ⟨Below.refl _ _, rfl⟩⟩
        · intro ax wx hq hfr hd
          have f39 : ax.tmps.getD 39 undef = .bool false := hd 1 (by kernel_rfl) _ _ rfl rfl
          have e39 := (getD_form _ _).symm.trans f39
          exact .inl ⟨wanted_free rfl, OpDoes.run (v := .bool false) (w' := wx) (by unfold execOp; simp only [Act.eval, f39, Sem.run_pure]) ⟨Below.refl _ _, rfl⟩⟩
        · intro ax wx hq hfr hd
          have f6 : ax.tmps.getD 6 undef = .bool false := (hfr 6 (by kernel_rfl)).trans rfl
          have e6 := (getD_form _ _).symm.trans f6
          exact .inl ⟨wanted_on rfl rfl rfl (hd 2 (by kernel_rfl) _ _ rfl rfl), OpDoes.run (v := .bool false) (w' := wx) (by unfold execOp; simp only [Act.eval, f6, Sem.run_pure]) ⟨Below.refl _ _, rfl⟩⟩
        · intro ax wx hq hfr hd
          have f7 : ax.tmps.getD 7 undef = .int .i64 (k : Nat) := (hfr 7 (by kernel_rfl)).trans rfl
          have e7 := (getD_form _ _).symm.trans f7
          exact .inl ⟨wanted_on rfl rfl rfl (hd 2 (by kernel_rfl) _ _ rfl rfl), OpDoes.run (v := .int .i64 (k : Nat)) (w' := wx) (by unfold execOp; simp only [Act.eval, f7, Sem.run_pure]) ⟨Below.refl _ _, rfl⟩⟩
        · intro ax wx hq hfr hd
          have f0 : ax.tmps.getD 0 undef = .slice A1 m c1 := (hfr 0 (by kernel_rfl)).trans rfl
          have e0 := (getD_form _ _).symm.trans f0
          exact .inl ⟨wanted_on rfl rfl rfl (hd 2 (by kernel_rfl) _ _ rfl rfl), OpDoes.run (v := .slice A1 m c1) (w' := wx) (by unfold execOp; simp only [Act.eval, f0, Sem.run_pure]) ⟨Below.refl _ _, rfl⟩⟩
        · intro ax wx hq hfr hd
          have f43 : ax.tmps.getD 43 undef = .slice A1 m c1 := hd 5 (by kernel_rfl) _ _ rfl rfl
          have e43 := (getD_form _ _).symm.trans f43
          exact .inl ⟨wanted_on rfl rfl rfl (hd 2 (by kernel_rfl) _ _ rfl rfl), OpDoes.run (v := .int .i64 (m : Nat)) (w' := wx) (by unfold execOp; simp [go_sem, Act.eval, e43]) ⟨Below.refl _ _, rfl⟩⟩
        · intro ax wx hq hfr hd
          have f42 : ax.tmps.getD 42 undef = .int .i64 (k : Nat) := hd 4 (by kernel_rfl) _ _ rfl rfl
          have e42 := (getD_form _ _).symm.trans f42
          have f44 : ax.tmps.getD 44 undef = .int .i64 (m : Nat) := hd 6 (by kernel_rfl) _ _ rfl rfl
          have e44 := (getD_form _ _).symm.trans f44
          exact .inl ⟨wanted_on rfl rfl rfl (hd 2 (by kernel_rfl) _ _ rfl rfl), OpDoes.run (v := .bool false) (w' := wx) (by unfold execOp; simp [go_sem, Act.eval, e42, e44, hki]) ⟨Below.refl _ _, rfl⟩⟩
        · intro ax wx hq hfr hd
          have f41 : ax.tmps.getD 41 undef = .bool false := hd 3 (by kernel_rfl) _ _ rfl rfl
          have e41 := (getD_form _ _).symm.trans f41
          have f45 : ax.tmps.getD 45 undef = .bool false := hd 7 (by kernel_rfl) _ _ rfl rfl
          have e45 := (getD_form _ _).symm.trans f45
          exact .inl ⟨wanted_on rfl rfl rfl (hd 2 (by kernel_rfl) _ _ rfl rfl), OpDoes.run (v := .bool false) (w' := wx) (by unfold execOp; simp [go_sem, Act.eval, e41, e45]) ⟨Below.refl _ _, rfl⟩⟩
        · intro ax wx hq hfr hd
          have f40 : ax.tmps.getD 40 undef = .bool false := hd 2 (by kernel_rfl) _ _ rfl rfl
          have e40 := (getD_form _ _).symm.trans f40
          have f46 : ax.tmps.getD 46 undef = .bool false := hd 8 (by kernel_rfl) _ _ rfl rfl
          have e46 := (getD_form _ _).symm.trans f46
          exact .inl ⟨wanted_free rfl, OpDoes.run (v := .bool false) (w' := wx) (by unfold execOp; simp [go_sem, Act.eval, e40, e46]) ⟨Below.refl _ _, rfl⟩⟩
        · intro ax wx hq hfr hd
          have f47 : ax.tmps.getD 47 undef = .bool false := hd 9 (by kernel_rfl) _ _ rfl rfl
          have e47 := (getD_form _ _).symm.trans f47
          exact .inl ⟨wanted_free rfl, OpDoes.run (v := .bool false) (w' := wx) (by unfold execOp; simp only [Act.eval, f47, Sem.run_pure]) ⟨Below.refl _ _, rfl⟩⟩
        · intro ax wx hq hfr hd
          have f6 : ax.tmps.getD 6 undef = .bool false := (hfr 6 (by kernel_rfl)).trans rfl
          have e6 := (getD_form _ _).symm.trans f6
          exact .inl ⟨wanted_on rfl rfl rfl (hd 10 (by kernel_rfl) _ _ rfl rfl), OpDoes.run (v := .bool false) (w' := wx) (by unfold execOp; simp only [Act.eval, f6, Sem.run_pure]) ⟨Below.refl _ _, rfl⟩⟩
        · intro ax wx hq hfr hd
          have f49 : ax.tmps.getD 49 undef = .bool false := hd 11 (by kernel_rfl) _ _ rfl rfl
          have e49 := (getD_form _ _).symm.trans f49
          exact .inl ⟨wanted_on rfl rfl rfl (hd 10 (by kernel_rfl) _ _ rfl rfl), OpDoes.run (v := .bool false) (w' := wx) (by unfold execOp; simp only [Act.eval, f49, Sem.run_pure]) ⟨Below.refl _ _, rfl⟩⟩
        · intro ax wx hq hfr hd
          have f5 : ax.tmps.getD 5 undef = .pointer (some ⟨w3.heap.size, 0, none⟩) := (hfr 5 (by kernel_rfl)).trans rfl
          have e5 := (getD_form _ _).symm.trans f5
          exact .inr ⟨wanted_off (b := false) rfl rfl rfl (hd 12 (by kernel_rfl) _ _ rfl rfl), trivial⟩
        · intro ax wx hq hfr hd
          exact .inr ⟨wanted_off (b := false) rfl rfl rfl (hd 12 (by kernel_rfl) _ _ rfl rfl), trivial⟩
        · intro ax wx hq hfr hd
          exact .inr ⟨wanted_off (b := false) rfl rfl rfl (hd 12 (by kernel_rfl) _ _ rfl rfl), trivial⟩
        · intro ax wx hq hfr hd
          have f0 : ax.tmps.getD 0 undef = .slice A1 m c1 := (hfr 0 (by kernel_rfl)).trans rfl
          have e0 := (getD_form _ _).symm.trans f0
          exact .inr ⟨wanted_off (b := false) rfl rfl rfl (hd 12 (by kernel_rfl) _ _ rfl rfl), trivial⟩
        · intro ax wx hq hfr hd
          have f7 : ax.tmps.getD 7 undef = .int .i64 (k : Nat) := (hfr 7 (by kernel_rfl)).trans rfl
          have e7 := (getD_form _ _).symm.trans f7
          exact .inr ⟨wanted_off (b := false) rfl rfl rfl (hd 12 (by kernel_rfl) _ _ rfl rfl), trivial⟩
        · intro ax wx hq hfr hd
          have f7 : ax.tmps.getD 7 undef = .int .i64 (k : Nat) := (hfr 7 (by kernel_rfl)).trans rfl
          have e7 := (getD_form _ _).symm.trans f7
          exact .inr ⟨wanted_off (b := false) rfl rfl rfl (hd 12 (by kernel_rfl) _ _ rfl rfl), trivial⟩
        · intro ax wx hq hfr hd
          exact .inr ⟨wanted_off (b := false) rfl rfl rfl (hd 12 (by kernel_rfl) _ _ rfl rfl), trivial⟩
        · intro ax wx hq hfr hd
          exact .inr ⟨wanted_off (b := false) rfl rfl rfl (hd 12 (by kernel_rfl) _ _ rfl rfl), trivial⟩
        · intro ax wx hq hfr hd
          exact .inr ⟨wanted_off (b := false) rfl rfl rfl (hd 12 (by kernel_rfl) _ _ rfl rfl), trivial⟩
        · intro ax wx hq hfr hd
          exact .inr ⟨wanted_off (b := false) rfl rfl rfl (hd 12 (by kernel_rfl) _ _ rfl rfl), trivial⟩
        · intro ax wx hq hfr hd
          have f50 : ax.tmps.getD 50 undef = .bool false := hd 12 (by kernel_rfl) _ _ rfl rfl
          have e50 := (getD_form _ _).symm.trans f50
          exact .inl ⟨wanted_on rfl rfl rfl (hd 10 (by kernel_rfl) _ _ rfl rfl), OpDoes.run (v := .bool false) (w' := wx) (by unfold execOp; simp [go_sem, Act.eval, e50]) ⟨Below.refl _ _, rfl⟩⟩
        · intro ax wx hq hfr hd
          have f48 : ax.tmps.getD 48 undef = .bool false := hd 10 (by kernel_rfl) _ _ rfl rfl
          have e48 := (getD_form _ _).symm.trans f48
          have f61 : ax.tmps.getD 61 undef = .bool false := hd 23 (by kernel_rfl) _ _ rfl rfl
          have e61 := (getD_form _ _).symm.trans f61
          exact .inl ⟨wanted_free rfl, OpDoes.run (v := .bool false) (w' := wx) (by unfold execOp; simp [go_sem, Act.eval, e48, e61]) ⟨Below.refl _ _, rfl⟩⟩
      · intro us wx hq hf
        have f62 : us 62 = .bool false := hf 24 _ _ rfl rfl
        have HQX := Lib.hid hq
        clear hf hq
        simp only [fillSlots, List.setIfInBounds_toArray, List.set_cons_succ, List.set_cons_zero, f62]
        clear f62
      -- DNEB
        go_wp2_with fail
        go_meet
        exact ⟨rfl, HQX⟩
  case rest =>
  obtain ⟨rfl, HQc⟩ := hcut
  have HN1c := Lib.hid (HN1.out.q HQc.out)
  have HQwc : Hid (Q w wc) := Lib.hid (HQ5.out.step HQc.out)
  have HTc := Lib.hid (to_ok A1 m c1 ys wc HM.out (by omega) HN1c.out (fun z hz => by have := HP.out z hz; omega))
  clear HN1 HN2 HON HOL HFD HB5 HBL5 HQ5 HQc HOK HK
  generalize wc = wd at *
  go_upto_region 11 with (first
    | (go_at_call 10; go_loud ((with_reducible refine (HTc.out).mono ?_); rintro e6 w6 ⟨v6, outs2, rfl, H6⟩; obtain ⟨A6, c6, rfl, HN6⟩ := H6.out.1.nodesAt (fits_same H6.out.2 HN1c.out.fit); have hol : outs2.length = m := (Made.len H6.out.2).trans HM.out; rw [hol]; have HI6 := Lib.hid (idsOf_ok A6 m c6 outs2 w6 hol (by omega) HN6 (map_pn H6.out.2 HP.out)); rw [partsN_same (map_n H6.out.2), treesN_same (map_n H6.out.2)] at HI6; have HQ6 := Lib.hid H6.out.1.q; clear HN6 hol H6))
    | (go_at_call 23; go_loud ((with_reducible refine (HI6.out).mono ?_); rintro e7 w7 ⟨p7, t7, rfl, H7⟩; obtain ⟨A7, c7, rfl⟩ := own_form H7.out.po; obtain ⟨A8, c8, rfl⟩ := own_form H7.out.to_)))
  have HPS : Hid (SeesP w7 (· < w7.heap.size) A7 ((partsN ys).flatMap gL)) := Lib.hid ((own_seesS H7.out.po).more fun b hb => hb.2)
  have HTS : Hid (SeesP w7 (· < w7.heap.size) A8 ((treesN ys).flatMap gL)) := Lib.hid ((own_seesS H7.out.to_).more fun b hb => hb.2)
  have HN7 := Lib.hid (HN1c.out.q (HQ6.out.step H7.out.q))
  have HQ7 : Hid (Q w w7) := Lib.hid (HQwc.out.step (HQ6.out.step H7.out.q))
  have HPL : Hid ((partsN ys).length ≤ 18000) := Lib.hid (by
    have h1 := partsN_len (zs := ys) (fun z hz => by have h2 := HP.out z hz; have h3 := (HN7.out.fit z hz).1.ids; omega)
    rw [HM.out] at h1; omega)
  have HTL : Hid ((treesN ys).length ≤ 60) := Lib.hid (by
    have h1 := treesN_len ys
    rw [HM.out] at h1; omega)
  obtain ⟨np, hnp⟩ : ∃ np, np = (partsN ys).length := ⟨_, rfl⟩
  obtain ⟨nt, hnt⟩ : ∃ nt, nt = (treesN ys).length := ⟨_, rfl⟩
  rw [← hnp] at HPL
  rw [← hnt] at HTL
  rw [← hnp, ← hnt]
  have HNP := Lib.hid hnp
  have HNT := Lib.hid hnt
  have hnpl := HPL.out
  have hntl := HTL.out
  clear H7 HN1c HQwc HI6 HQ6 HTc HPL HTL hnp hnt
  go_wp2_with fail
  go_loopw [10, 11, 12] (fun i t j wr => ∃ q : Nat, q ≤ m ∧ j = .int .i64 q ∧ i = .int .i64 ((partsN (ys.take q)).length : Nat) ∧ t = .int .i64 ((treesN (ys.take q)).length : Nat) ∧ Hid (Q w7 wr)) (fun _ _ i _ => m - (intOf i).toNat)
  case atStart => exact ⟨0, by omega, rfl, rfl, rfl, Q.refl _⟩
  case round =>
    obtain ⟨j, hj, rfl, rfl, rfl, HQr⟩ := hrel
    obtain ⟨wq, hwq⟩ : ∃ w, w = wr := ⟨_, rfl⟩
    subst hwq
    by_cases hlt : j < m
    · have hjy : j < ys.length := by rw [HM.out]; exact hlt
      obtain ⟨b, o, e1, hb, hat⟩ := (HN7.out.q HQr.out).at_ j hjy
      have hfit := HN7.out.fit ys[j] (List.getElem_mem hjy)
      have hpa := (HN7.out.q HQr.out).parts ys[j] (List.getElem_mem hjy)
      have HT1 := Lib.hid (partsN_take hjy)
      have HT2 := Lib.hid (treesN_take hjy)
      have HP1 : Hid (ys[j].n.kind = 0 → ∀ q (hq : q < ys[j].n.ids.length), ∃ h : (partsN (ys.take j)).length + q < (partsN ys).length, (partsN ys)[(partsN (ys.take j)).length + q] = ys[j].n.ids[q]) := Lib.hid fun h0 q hq => partsN_at hjy h0 hq
      have HP2 : Hid (ys[j].n.kind = 1 → ∃ h : (treesN (ys.take j)).length < (treesN ys).length, (treesN ys)[(treesN (ys.take j)).length] = ys[j].n.tree) := Lib.hid fun h0 => treesN_at hjy h0
      have hpb : (partsN (ys.take j)).length ≤ 18000 := by
        have h1 := partsN_len (zs := ys.take j) (fun z hz => by have h4 := List.mem_of_mem_take hz; have h2 := HP.out z h4; have h3 := (HN7.out.fit z h4).1.ids; omega)
        rw [List.length_take] at h1; omega
      have htb : (treesN (ys.take j)).length ≤ 60 := by
        have h1 := treesN_len (ys.take j)
        rw [List.length_take] at h1; omega
      generalize ys[j] = z at *
      obtain ⟨pb, hpbe⟩ : ∃ pb, pb = (partsN (ys.take j)).length := ⟨_, rfl⟩
      obtain ⟨tb, htbe⟩ : ∃ tb, tb = (treesN (ys.take j)).length := ⟨_, rfl⟩
      have HT3 : Hid ((partsN (ys.take (j + 1))).length = pb + (if z.n.kind = 0 then z.n.ids else []).length) := Lib.hid (by rw [HT1.out, List.length_append, hpbe])
      have HT4 : Hid ((treesN (ys.take (j + 1))).length = tb + (if z.n.kind = 1 then [z.n.tree] else []).length) := Lib.hid (by rw [HT2.out, List.length_append, htbe])
      clear HT1 HT2
      rw [← hpbe] at hpb HP1
      rw [← htbe] at htb HP2
      rw [← hpbe, ← htbe]
      clear hpbe htbe
      obtain ⟨n, A, pn, pc⟩ := z
      simp only at hfit hat hpa HT3 HT4 HP1 HP2
      have hids := hfit.1.ids
      have hpm := hfit.1.max
      have HAT := Lib.hid hat
      have HPA := Lib.hid hpa
      have HIL : Hid (n.ids.length = pn) := Lib.hid hids
      have HTR : Hid (n.tree.length = 32) := Lib.hid hfit.1.tree
      have HI32 : Hid (∀ i ∈ n.ids, i.length = 32) := Lib.hid fun i hi => (hfit.2.2.1 i hi).1
      have HBL := Lib.hid hb
      have c1k := hat.kind
      clear hjy hat hfit hpa hb hids
      subst e1
      have hjm : (j : Int) < m := by omega
      by_cases h0 : n.kind = 0
      · have HE : Hid ((partsN (ys.take (j + 1))).length = pb + pn ∧ (treesN (ys.take (j + 1))).length = tb) := Lib.hid ⟨by rw [HT3.out, if_pos h0, HIL.out], by rw [HT4.out, h0]; simp⟩
        have HP1' := Lib.hid (HP1.out h0)
        clear HT3 HT4 HP1 HP2
        go_wp2_with fail
        go_loopw [10, 13] (fun i t wr => ∃ q : Nat, q ≤ pn ∧ t = .int .i64 q ∧ i = .int .i64 ((pb + q : Nat) : Int) ∧ Hid (Q wq wr)) (fun _ i _ => pn - (intOf i).toNat)
        case atStart => exact ⟨0, by omega, rfl, rfl, Q.refl _⟩
        case round =>
          obtain ⟨q, hq, rfl, rfl, HQi⟩ := hrel
          obtain ⟨wi, hwi⟩ : ∃ w, w = wr := ⟨_, rfl⟩
          subst hwi
          have c6i := (NodeAt.q HAT.out HBL.out HQi.out).parts
          by_cases hqp : q < pn
          · have hqi : q < n.ids.length := by rw [HIL.out]; exact hqp
            obtain ⟨hpl, hpe⟩ := HP1'.out q hqi
            have hidm := List.getElem_mem hqi
            obtain ⟨b7, o7, e7, hb7, hc7⟩ := ids_at (SeesP.on HPS.out (HQr.out.step HQi.out)) (pb + q) hpl
            obtain ⟨ba, oa, ea, hba, hca⟩ := ids_at (SeesP.on HPA.out HQi.out) q hqi
            rw [hpe] at hc7
            rw [← HNP.out] at hpl
            have HID := Lib.hid (HI32.out _ hidm)
            clear hidm hpe
            generalize n.ids[q] = id at *
            have HB7 := Lib.hid hb7
            have HC7 := Lib.hid hc7
            have HBA := Lib.hid hba
            have HCA := Lib.hid hca
            have HBI : Hid (b < wi.heap.size) := Lib.hid (Nat.lt_of_lt_of_le HBL.out HQi.out.size)
            subst e7
            subst ea
            have hge : ¬ ((np : Int) ≤ (pb : Int) + q) := by omega
            have hlp : (pb : Int) + q < np := by omega
            have hlp0 : ¬ ((pb : Int) + q < 0) := by omega
            have htn : ((pb : Int) + q).toNat = pb + q := by omega
            have hqm : (q : Int) < pn := by omega
            clear hb7 hc7 hba hca hqi
            go_wp2_with fail
            -- REGC
            refine wp_region_factsL (by kernel_rfl) (by kernel_rfl) (factsOf [.is (.int .i64 ((pb + q : Nat) : Int)), .is (.slice (some ⟨b7, o7, none⟩) np c7), .is (.int .i64 (np : Nat)), .is (.bool false), .is (.bool false), .is (.slice (some ⟨b7, o7, none⟩) np c7), .is (.int .i64 ((pb + q : Nat) : Int)), .is (.pointer (some ⟨b7, o7 + (pb + q) * 32, none⟩)), .is (.agg (arrO id)), .is (.slice (some ⟨b, o, none⟩) m c1), .is (.int .i64 (j : Nat)), .is (.pointer (some ⟨b, o + j * 39, none⟩)), .is (.pointer (some ⟨b, o + j * 39 + 6, none⟩)), .is (.slice (some ⟨ba, oa, none⟩) pn pc), .is (.int .i64 (q : Nat)), .is (.pointer (some ⟨ba, oa + q * 32, none⟩)), .is (.agg (arrO id)), .is (.bool false), .is (.bool false)]) (factsOf_stays _) ?_ ?_
            · refine ⟨?_, ?_, ?_, ?_, ?_, ?_, ?_, ?_, ?_, ?_, ?_, ?_, ?_, ?_, ?_, ?_, ?_, ?_, ?_, trivial⟩
              · intro ax wx hq hfr hd
                have f10 : ax.tmps.getD 10 undef = .int .i64 ((pb + q : Nat) : Int) := (hfr 10 (by kernel_rfl)).trans rfl
                have e10 := (getD_form _ _).symm.trans f10
                exact .inl ⟨wanted_free rfl, OpDoes.run (v := .int .i64 ((pb + q : Nat) : Int)) (w' := wx) (by unfold execOp; simp only [Act.eval, f10, Sem.run_pure]) ⟨Below.refl _ _, rfl⟩⟩
              · intro ax wx hq hfr hd
                have f8 : ax.tmps.getD 8 undef = .slice (some ⟨b7, o7, none⟩) np c7 := (hfr 8 (by kernel_rfl)).trans rfl
                have e8 := (getD_form _ _).symm.trans f8
                exact .inl ⟨wanted_free rfl, OpDoes.run (v := .slice (some ⟨b7, o7, none⟩) np c7) (w' := wx) (by unfold execOp; simp only [Act.eval, f8, Sem.run_pure]) ⟨Below.refl _ _, rfl⟩⟩
              · intro ax wx hq hfr hd
                have f93 : ax.tmps.getD 93 undef = .slice (some ⟨b7, o7, none⟩) np c7 := hd 1 (by kernel_rfl) _ _ rfl rfl
                have e93 := (getD_form _ _).symm.trans f93
                exact .inl ⟨wanted_free rfl, OpDoes.run (v := .int .i64 (np : Nat)) (w' := wx) (by unfold execOp; simp [go_sem, Act.eval, e93]) ⟨Below.refl _ _, rfl⟩⟩
              · intro ax wx hq hfr hd
                have f92 : ax.tmps.getD 92 undef = .int .i64 ((pb + q : Nat) : Int) := hd 0 (by kernel_rfl) _ _ rfl rfl
                have e92 := (getD_form _ _).symm.trans f92
                have f94 : ax.tmps.getD 94 undef = .int .i64 (np : Nat) := hd 2 (by kernel_rfl) _ _ rfl rfl
                have e94 := (getD_form _ _).symm.trans f94
                exact .inl ⟨wanted_free rfl, OpDoes.run (v := .bool false) (w' := wx) (by unfold execOp; simp [go_sem, Act.eval, e92, e94, hge]) ⟨Below.refl _ _, rfl⟩⟩
              · intro ax wx hq hfr hd
                have f95 : ax.tmps.getD 95 undef = .bool false := hd 3 (by kernel_rfl) _ _ rfl rfl
                have e95 := (getD_form _ _).symm.trans f95
                exact .inl ⟨wanted_free rfl, OpDoes.run (v := .bool false) (w' := wx) (by unfold execOp; simp only [Act.eval, f95, Sem.run_pure]) ⟨Below.refl _ _, rfl⟩⟩
              · intro ax wx hq hfr hd
                have f8 : ax.tmps.getD 8 undef = .slice (some ⟨b7, o7, none⟩) np c7 := (hfr 8 (by kernel_rfl)).trans rfl
                have e8 := (getD_form _ _).symm.trans f8
                exact .inl ⟨wanted_on rfl rfl rfl (hd 4 (by kernel_rfl) _ _ rfl rfl), OpDoes.run (v := .slice (some ⟨b7, o7, none⟩) np c7) (w' := wx) (by unfold execOp; simp only [Act.eval, f8, Sem.run_pure]) ⟨Below.refl _ _, rfl⟩⟩
              · intro ax wx hq hfr hd
                have f10 : ax.tmps.getD 10 undef = .int .i64 ((pb + q : Nat) : Int) := (hfr 10 (by kernel_rfl)).trans rfl
                have e10 := (getD_form _ _).symm.trans f10
                exact .inl ⟨wanted_on rfl rfl rfl (hd 4 (by kernel_rfl) _ _ rfl rfl), OpDoes.run (v := .int .i64 ((pb + q : Nat) : Int)) (w' := wx) (by unfold execOp; simp only [Act.eval, f10, Sem.run_pure]) ⟨Below.refl _ _, rfl⟩⟩
              · intro ax wx hq hfr hd
                have f97 : ax.tmps.getD 97 undef = .slice (some ⟨b7, o7, none⟩) np c7 := hd 5 (by kernel_rfl) _ _ rfl rfl
                have e97 := (getD_form _ _).symm.trans f97
                have f98 : ax.tmps.getD 98 undef = .int .i64 ((pb + q : Nat) : Int) := hd 6 (by kernel_rfl) _ _ rfl rfl
                have e98 := (getD_form _ _).symm.trans f98
                exact .inl ⟨wanted_on rfl rfl rfl (hd 4 (by kernel_rfl) _ _ rfl rfl), OpDoes.run (v := .pointer (some ⟨b7, o7 + (pb + q) * 32, none⟩)) (w' := wx) (by unfold execOp; simp [go_sem, Act.eval, e97, e98, add_addr, hlp, hlp0, htn]) ⟨Below.refl _ _, rfl⟩⟩
              · intro ax wx hq hfr hd
                have f99 : ax.tmps.getD 99 undef = .pointer (some ⟨b7, o7 + (pb + q) * 32, none⟩) := hd 7 (by kernel_rfl) _ _ rfl rfl
                have e99 := (getD_form _ _).symm.trans f99
                exact .inl ⟨wanted_on rfl rfl rfl (hd 4 (by kernel_rfl) _ _ rfl rfl), OpDoes.run (v := .agg (arrO id)) (w' := wx) (load_id (o7 + (pb + q) * 32) (.tmp 99) rfl f99 (fun i hi => (hq.cell (p := ⟨b7, o7 + (pb + q) * 32 + i, none⟩) HB7.out).trans (HC7.out i hi))) ⟨Below.refl _ _, rfl⟩⟩
              · intro ax wx hq hfr hd
                have f0 : ax.tmps.getD 0 undef = .slice (some ⟨b, o, none⟩) m c1 := (hfr 0 (by kernel_rfl)).trans rfl
                have e0 := (getD_form _ _).symm.trans f0
                exact .inl ⟨wanted_on rfl rfl rfl (hd 4 (by kernel_rfl) _ _ rfl rfl), OpDoes.run (v := .slice (some ⟨b, o, none⟩) m c1) (w' := wx) (by unfold execOp; simp only [Act.eval, f0, Sem.run_pure]) ⟨Below.refl _ _, rfl⟩⟩
              · intro ax wx hq hfr hd
                have f12 : ax.tmps.getD 12 undef = .int .i64 (j : Nat) := (hfr 12 (by kernel_rfl)).trans rfl
                have e12 := (getD_form _ _).symm.trans f12
                exact .inl ⟨wanted_on rfl rfl rfl (hd 4 (by kernel_rfl) _ _ rfl rfl), OpDoes.run (v := .int .i64 (j : Nat)) (w' := wx) (by unfold execOp; simp only [Act.eval, f12, Sem.run_pure]) ⟨Below.refl _ _, rfl⟩⟩
              · intro ax wx hq hfr hd
                have f101 : ax.tmps.getD 101 undef = .slice (some ⟨b, o, none⟩) m c1 := hd 9 (by kernel_rfl) _ _ rfl rfl
                have e101 := (getD_form _ _).symm.trans f101
                have f102 : ax.tmps.getD 102 undef = .int .i64 (j : Nat) := hd 10 (by kernel_rfl) _ _ rfl rfl
                have e102 := (getD_form _ _).symm.trans f102
                exact .inl ⟨wanted_on rfl rfl rfl (hd 4 (by kernel_rfl) _ _ rfl rfl), OpDoes.run (v := .pointer (some ⟨b, o + j * 39, none⟩)) (w' := wx) (by unfold execOp; simp [go_sem, Act.eval, e101, e102, add_addr, hjm]) ⟨Below.refl _ _, rfl⟩⟩
              · intro ax wx hq hfr hd
                have f103 : ax.tmps.getD 103 undef = .pointer (some ⟨b, o + j * 39, none⟩) := hd 11 (by kernel_rfl) _ _ rfl rfl
                have e103 := (getD_form _ _).symm.trans f103
                exact .inl ⟨wanted_on rfl rfl rfl (hd 4 (by kernel_rfl) _ _ rfl rfl), OpDoes.run (v := .pointer (some ⟨b, o + j * 39 + 6, none⟩)) (w' := wx) (by unfold execOp; simp [go_sem, Act.eval, e103, add_addr]) ⟨Below.refl _ _, rfl⟩⟩
              · intro ax wx hq hfr hd
                have f104 : ax.tmps.getD 104 undef = .pointer (some ⟨b, o + j * 39 + 6, none⟩) := hd 12 (by kernel_rfl) _ _ rfl rfl
                have e104 := (getD_form _ _).symm.trans f104
                have hc := (hq.cell (p := ⟨b, o + j * 39 + 6, none⟩) HBI.out).trans c6i
                exact .inl ⟨wanted_on rfl rfl rfl (hd 4 (by kernel_rfl) _ _ rfl rfl), OpDoes.run (v := .slice (some ⟨ba, oa, none⟩) pn pc) (w' := wx) (by unfold execOp; simp [go_sem, Act.eval, e104, hc]) ⟨Below.refl _ _, rfl⟩⟩
              · intro ax wx hq hfr hd
                have f13 : ax.tmps.getD 13 undef = .int .i64 (q : Nat) := (hfr 13 (by kernel_rfl)).trans rfl
                have e13 := (getD_form _ _).symm.trans f13
                exact .inl ⟨wanted_on rfl rfl rfl (hd 4 (by kernel_rfl) _ _ rfl rfl), OpDoes.run (v := .int .i64 (q : Nat)) (w' := wx) (by unfold execOp; simp only [Act.eval, f13, Sem.run_pure]) ⟨Below.refl _ _, rfl⟩⟩
              · intro ax wx hq hfr hd
                have f105 : ax.tmps.getD 105 undef = .slice (some ⟨ba, oa, none⟩) pn pc := hd 13 (by kernel_rfl) _ _ rfl rfl
                have e105 := (getD_form _ _).symm.trans f105
                have f106 : ax.tmps.getD 106 undef = .int .i64 (q : Nat) := hd 14 (by kernel_rfl) _ _ rfl rfl
                have e106 := (getD_form _ _).symm.trans f106
                exact .inl ⟨wanted_on rfl rfl rfl (hd 4 (by kernel_rfl) _ _ rfl rfl), OpDoes.run (v := .pointer (some ⟨ba, oa + q * 32, none⟩)) (w' := wx) (by unfold execOp; simp [go_sem, Act.eval, e105, e106, add_addr, hqm]) ⟨Below.refl _ _, rfl⟩⟩
              · intro ax wx hq hfr hd
                have f107 : ax.tmps.getD 107 undef = .pointer (some ⟨ba, oa + q * 32, none⟩) := hd 15 (by kernel_rfl) _ _ rfl rfl
                have e107 := (getD_form _ _).symm.trans f107
                exact .inl ⟨wanted_on rfl rfl rfl (hd 4 (by kernel_rfl) _ _ rfl rfl), OpDoes.run (v := .agg (arrO id)) (w' := wx) (load_id (oa + q * 32) (.tmp 107) rfl f107 (fun i hi => (hq.cell (p := ⟨ba, oa + q * 32 + i, none⟩) HBA.out).trans (HCA.out i hi))) ⟨Below.refl _ _, rfl⟩⟩
              · intro ax wx hq hfr hd
                have f100 : ax.tmps.getD 100 undef = .agg (arrO id) := hd 8 (by kernel_rfl) _ _ rfl rfl
                have e100 := (getD_form _ _).symm.trans f100
                have f108 : ax.tmps.getD 108 undef = .agg (arrO id) := hd 16 (by kernel_rfl) _ _ rfl rfl
                have e108 := (getD_form _ _).symm.trans f108
                exact .inl ⟨wanted_on rfl rfl rfl (hd 4 (by kernel_rfl) _ _ rfl rfl), OpDoes.run (v := .bool false) (w' := wx) (run_neq_id_same _ id HID.out _ _ _ _ rfl f100 f108 wx) ⟨Below.refl _ _, rfl⟩⟩
              · intro ax wx hq hfr hd
                have f96 : ax.tmps.getD 96 undef = .bool false := hd 4 (by kernel_rfl) _ _ rfl rfl
                have e96 := (getD_form _ _).symm.trans f96
                have f109 : ax.tmps.getD 109 undef = .bool false := hd 17 (by kernel_rfl) _ _ rfl rfl
                have e109 := (getD_form _ _).symm.trans f109
                exact .inl ⟨wanted_free rfl, OpDoes.run (v := .bool false) (w' := wx) (by unfold execOp; simp [go_sem, Act.eval, e96, e109]) ⟨Below.refl _ _, rfl⟩⟩
            · intro us wx hq hf
              have f110 : us 110 = .bool false := hf 18 _ _ rfl rfl
              have HQX := Lib.hid hq
              clear hf hq
              simp only [fillSlots, List.setIfInBounds_toArray, List.set_cons_succ, List.set_cons_zero, f110]
              clear f110
            -- DNEC
              go_wp2_with fail
              go_roundw
              case rel => exact ⟨q + 1, by omega, by go_num, by go_num, HQi.out.step HQX.out⟩
              case measure => simp [intOf]; omega
          · obtain rfl : q = pn := by omega
            go_wp2_with fail
            go_roundw
            case rel => exact ⟨j + 1, by omega, by go_num, by rw [HE.out.1], by rw [HE.out.2], HQr.out.step HQi.out⟩
            case measure => simp [intOf]; omega
      · by_cases h1 : n.kind = 1
        · have HE : Hid ((partsN (ys.take (j + 1))).length = pb ∧ (treesN (ys.take (j + 1))).length = tb + 1) := Lib.hid ⟨by rw [HT3.out, if_neg h0]; rfl, by rw [HT4.out, if_pos h1]; rfl⟩
          obtain ⟨hpl, hpe⟩ := HP2.out h1
          obtain ⟨b8, o8, e8, hb8, hc8⟩ := ids_at (SeesP.on HTS.out HQr.out) tb hpl
          rw [hpe] at hc8
          rw [← HNT.out] at hpl
          have HB7 := Lib.hid hb8
          have HC7 := Lib.hid hc8
          subst e8
          have hge : ¬ ((nt : Int) ≤ (tb : Int)) := by omega
          have hlp : (tb : Int) < nt := by omega
          have hlpn : tb < nt := hpl
          clear hb8 hc8 hpe h0 HT3 HT4 HP1 HP2
          go_wp2_with fail
          -- REGD
          refine wp_region_factsL (by kernel_rfl) (by kernel_rfl) (factsOf [.is (.int .i64 (tb : Nat)), .is (.slice (some ⟨b8, o8, none⟩) nt c8), .is (.int .i64 (nt : Nat)), .is (.bool false), .is (.bool false), .is (.slice (some ⟨b8, o8, none⟩) nt c8), .is (.int .i64 (tb : Nat)), .is (.pointer (some ⟨b8, o8 + tb * 32, none⟩)), .is (.agg (arrO n.tree)), .is (.slice (some ⟨b, o, none⟩) m c1), .is (.int .i64 (j : Nat)), .is (.pointer (some ⟨b, o + j * 39, none⟩)), .is (.pointer (some ⟨b, o + j * 39 + 7, none⟩)), .is (.agg (arrO n.tree)), .is (.bool false), .is (.bool false)]) (factsOf_stays _) ?_ ?_
          · refine ⟨?_, ?_, ?_, ?_, ?_, ?_, ?_, ?_, ?_, ?_, ?_, ?_, ?_, ?_, ?_, ?_, trivial⟩
            · intro ax wx hq hfr hd
              have f11 : ax.tmps.getD 11 undef = .int .i64 (tb : Nat) := (hfr 11 (by kernel_rfl)).trans rfl
              have e11 := (getD_form _ _).symm.trans f11
              exact .inl ⟨wanted_free rfl, OpDoes.run (v := .int .i64 (tb : Nat)) (w' := wx) (by unfold execOp; simp only [Act.eval, f11, Sem.run_pure]) ⟨Below.refl _ _, rfl⟩⟩
            · intro ax wx hq hfr hd
              have f9 : ax.tmps.getD 9 undef = .slice (some ⟨b8, o8, none⟩) nt c8 := (hfr 9 (by kernel_rfl)).trans rfl
              have e9 := (getD_form _ _).symm.trans f9
              exact .inl ⟨wanted_free rfl, OpDoes.run (v := .slice (some ⟨b8, o8, none⟩) nt c8) (w' := wx) (by unfold execOp; simp only [Act.eval, f9, Sem.run_pure]) ⟨Below.refl _ _, rfl⟩⟩
            · intro ax wx hq hfr hd
              have f116 : ax.tmps.getD 116 undef = .slice (some ⟨b8, o8, none⟩) nt c8 := hd 1 (by kernel_rfl) _ _ rfl rfl
              have e116 := (getD_form _ _).symm.trans f116
              exact .inl ⟨wanted_free rfl, OpDoes.run (v := .int .i64 (nt : Nat)) (w' := wx) (by unfold execOp; simp [go_sem, Act.eval, e116]) ⟨Below.refl _ _, rfl⟩⟩
            · intro ax wx hq hfr hd
              have f115 : ax.tmps.getD 115 undef = .int .i64 (tb : Nat) := hd 0 (by kernel_rfl) _ _ rfl rfl
              have e115 := (getD_form _ _).symm.trans f115
              have f117 : ax.tmps.getD 117 undef = .int .i64 (nt : Nat) := hd 2 (by kernel_rfl) _ _ rfl rfl
              have e117 := (getD_form _ _).symm.trans f117
              exact .inl ⟨wanted_free rfl, OpDoes.run (v := .bool false) (w' := wx) (by unfold execOp; simp [go_sem, Act.eval, e115, e117, hge, hlpn]) ⟨Below.refl _ _, rfl⟩⟩
            · intro ax wx hq hfr hd
              have f118 : ax.tmps.getD 118 undef = .bool false := hd 3 (by kernel_rfl) _ _ rfl rfl
              have e118 := (getD_form _ _).symm.trans f118
              exact .inl ⟨wanted_free rfl, OpDoes.run (v := .bool false) (w' := wx) (by unfold execOp; simp only [Act.eval, f118, Sem.run_pure]) ⟨Below.refl _ _, rfl⟩⟩
            · intro ax wx hq hfr hd
              have f9 : ax.tmps.getD 9 undef = .slice (some ⟨b8, o8, none⟩) nt c8 := (hfr 9 (by kernel_rfl)).trans rfl
              have e9 := (getD_form _ _).symm.trans f9
              exact .inl ⟨wanted_on rfl rfl rfl (hd 4 (by kernel_rfl) _ _ rfl rfl), OpDoes.run (v := .slice (some ⟨b8, o8, none⟩) nt c8) (w' := wx) (by unfold execOp; simp only [Act.eval, f9, Sem.run_pure]) ⟨Below.refl _ _, rfl⟩⟩
            · intro ax wx hq hfr hd
              have f11 : ax.tmps.getD 11 undef = .int .i64 (tb : Nat) := (hfr 11 (by kernel_rfl)).trans rfl
              have e11 := (getD_form _ _).symm.trans f11
              exact .inl ⟨wanted_on rfl rfl rfl (hd 4 (by kernel_rfl) _ _ rfl rfl), OpDoes.run (v := .int .i64 (tb : Nat)) (w' := wx) (by unfold execOp; simp only [Act.eval, f11, Sem.run_pure]) ⟨Below.refl _ _, rfl⟩⟩
            · intro ax wx hq hfr hd
              have f120 : ax.tmps.getD 120 undef = .slice (some ⟨b8, o8, none⟩) nt c8 := hd 5 (by kernel_rfl) _ _ rfl rfl
              have e120 := (getD_form _ _).symm.trans f120
              have f121 : ax.tmps.getD 121 undef = .int .i64 (tb : Nat) := hd 6 (by kernel_rfl) _ _ rfl rfl
              have e121 := (getD_form _ _).symm.trans f121
              exact .inl ⟨wanted_on rfl rfl rfl (hd 4 (by kernel_rfl) _ _ rfl rfl), OpDoes.run (v := .pointer (some ⟨b8, o8 + tb * 32, none⟩)) (w' := wx) (by unfold execOp; simp [go_sem, Act.eval, e120, e121, add_addr, hlp, hlpn]) ⟨Below.refl _ _, rfl⟩⟩
            · intro ax wx hq hfr hd
              have f122 : ax.tmps.getD 122 undef = .pointer (some ⟨b8, o8 + tb * 32, none⟩) := hd 7 (by kernel_rfl) _ _ rfl rfl
              have e122 := (getD_form _ _).symm.trans f122
              exact .inl ⟨wanted_on rfl rfl rfl (hd 4 (by kernel_rfl) _ _ rfl rfl), OpDoes.run (v := .agg (arrO n.tree)) (w' := wx) (load_id (o8 + tb * 32) (.tmp 122) rfl f122 (fun i hi => (hq.cell (p := ⟨b8, o8 + tb * 32 + i, none⟩) HB7.out).trans (HC7.out i hi))) ⟨Below.refl _ _, rfl⟩⟩
            · intro ax wx hq hfr hd
              have f0 : ax.tmps.getD 0 undef = .slice (some ⟨b, o, none⟩) m c1 := (hfr 0 (by kernel_rfl)).trans rfl
              have e0 := (getD_form _ _).symm.trans f0
              exact .inl ⟨wanted_on rfl rfl rfl (hd 4 (by kernel_rfl) _ _ rfl rfl), OpDoes.run (v := .slice (some ⟨b, o, none⟩) m c1) (w' := wx) (by unfold execOp; simp only [Act.eval, f0, Sem.run_pure]) ⟨Below.refl _ _, rfl⟩⟩
            · intro ax wx hq hfr hd
              have f12 : ax.tmps.getD 12 undef = .int .i64 (j : Nat) := (hfr 12 (by kernel_rfl)).trans rfl
              have e12 := (getD_form _ _).symm.trans f12
              exact .inl ⟨wanted_on rfl rfl rfl (hd 4 (by kernel_rfl) _ _ rfl rfl), OpDoes.run (v := .int .i64 (j : Nat)) (w' := wx) (by unfold execOp; simp only [Act.eval, f12, Sem.run_pure]) ⟨Below.refl _ _, rfl⟩⟩
            · intro ax wx hq hfr hd
              have f124 : ax.tmps.getD 124 undef = .slice (some ⟨b, o, none⟩) m c1 := hd 9 (by kernel_rfl) _ _ rfl rfl
              have e124 := (getD_form _ _).symm.trans f124
              have f125 : ax.tmps.getD 125 undef = .int .i64 (j : Nat) := hd 10 (by kernel_rfl) _ _ rfl rfl
              have e125 := (getD_form _ _).symm.trans f125
              exact .inl ⟨wanted_on rfl rfl rfl (hd 4 (by kernel_rfl) _ _ rfl rfl), OpDoes.run (v := .pointer (some ⟨b, o + j * 39, none⟩)) (w' := wx) (by unfold execOp; simp [go_sem, Act.eval, e124, e125, add_addr, hjm]) ⟨Below.refl _ _, rfl⟩⟩
            · intro ax wx hq hfr hd
              have f126 : ax.tmps.getD 126 undef = .pointer (some ⟨b, o + j * 39, none⟩) := hd 11 (by kernel_rfl) _ _ rfl rfl
              have e126 := (getD_form _ _).symm.trans f126
              exact .inl ⟨wanted_on rfl rfl rfl (hd 4 (by kernel_rfl) _ _ rfl rfl), OpDoes.run (v := .pointer (some ⟨b, o + j * 39 + 7, none⟩)) (w' := wx) (by unfold execOp; simp [go_sem, Act.eval, e126, add_addr]) ⟨Below.refl _ _, rfl⟩⟩
            · intro ax wx hq hfr hd
              have f127 : ax.tmps.getD 127 undef = .pointer (some ⟨b, o + j * 39 + 7, none⟩) := hd 12 (by kernel_rfl) _ _ rfl rfl
              have e127 := (getD_form _ _).symm.trans f127
              exact .inl ⟨wanted_on rfl rfl rfl (hd 4 (by kernel_rfl) _ _ rfl rfl), OpDoes.run (v := .agg (arrO n.tree)) (w' := wx) (load_id (o + j * 39 + 7) (.tmp 127) rfl f127 (NodeAt.q HAT.out HBL.out hq).tree) ⟨Below.refl _ _, rfl⟩⟩
            · intro ax wx hq hfr hd
              have f123 : ax.tmps.getD 123 undef = .agg (arrO n.tree) := hd 8 (by kernel_rfl) _ _ rfl rfl
              have e123 := (getD_form _ _).symm.trans f123
              have f128 : ax.tmps.getD 128 undef = .agg (arrO n.tree) := hd 13 (by kernel_rfl) _ _ rfl rfl
              have e128 := (getD_form _ _).symm.trans f128
              exact .inl ⟨wanted_on rfl rfl rfl (hd 4 (by kernel_rfl) _ _ rfl rfl), OpDoes.run (v := .bool false) (w' := wx) (run_neq_id_same _ n.tree HTR.out _ _ _ _ rfl f123 f128 wx) ⟨Below.refl _ _, rfl⟩⟩
            · intro ax wx hq hfr hd
              have f119 : ax.tmps.getD 119 undef = .bool false := hd 4 (by kernel_rfl) _ _ rfl rfl
              have e119 := (getD_form _ _).symm.trans f119
              have f129 : ax.tmps.getD 129 undef = .bool false := hd 14 (by kernel_rfl) _ _ rfl rfl
              have e129 := (getD_form _ _).symm.trans f129
              exact .inl ⟨wanted_free rfl, OpDoes.run (v := .bool false) (w' := wx) (by unfold execOp; simp [go_sem, Act.eval, e119, e129]) ⟨Below.refl _ _, rfl⟩⟩
          · intro us wx hq hf
            have f130 : us 130 = .bool false := hf 15 _ _ rfl rfl
            have HQX := Lib.hid hq
            clear hf hq
            simp only [fillSlots, List.setIfInBounds_toArray, List.set_cons_succ, List.set_cons_zero, f130]
            clear f130
          -- DNED
            go_wp2_with fail
            go_roundw
            case rel => exact ⟨j + 1, by omega, by go_num, by rw [HE.out.1], by rw [HE.out.2]; go_num, HQr.out.step HQX.out⟩
            case measure => simp [intOf]; omega
        · have HE : Hid ((partsN (ys.take (j + 1))).length = pb ∧ (treesN (ys.take (j + 1))).length = tb) := Lib.hid ⟨by rw [HT3.out, if_neg h0]; rfl, by rw [HT4.out, if_neg h1]; rfl⟩
          have hb0 : (n.kind == 0) = false := by simp [h0]
          have hb1 : (n.kind == 1) = false := by simp [h1]
          go_wp2_with fail
          go_roundw
          case rel => exact ⟨j + 1, by omega, by go_num, by rw [HE.out.1], by rw [HE.out.2], HQr.out⟩
          case measure => simp [intOf]; omega
    · obtain rfl : m = j := by omega
      have HR : Hid (ys.take m = ys) := Lib.hid (List.take_of_length_le (by rw [HM.out]; exact Nat.le_refl _))
      rw [HR.out, ← HNP.out, ← HNT.out]
      go_wp2_with fail
      go_ret
      exact ⟨rfl, HQ7.out.step HQr.out⟩
theorem nodeFinds_true (A : Option Addr) (n c : Nat) (zs : List NdIn) (s : ByteArray) (_ : s.size ≤ maxLen) (w : World) (h : RowOfR w 39 (NdR w) A n c zs) :
    Calls Try.prog 6 #[.slice A n c, .string s] w fun e w' => e = .returned (.bool true) ∧ Below w.heap.size w w' := by
  obtain ⟨h1, h2⟩ := nodes_of_row h
  exact nodeFinds_walk A n c _ s w h2 (by have := h.le; have := h.max; unfold maxLen at this; omega) h1
end Go.Proofs.Ytffenfhbiapefaa
