/- The walk through DocDecode. -/
import Derived.Test.YtffenfhbiapefaaDdp
import Derived.Test.YtffenfhbiapefaaDoc
import Derived.Test.YtffenfhbiapefaaNfi
namespace Go.Proofs.Ytffenfhbiapefaa
set_option linter.unusedVariables false
set_option linter.unusedSimpArgs false
open Go.RowKit

theorem rnumK {g : Nat} {limit : Int} (hl : -9223372036854775808 ≤ limit ∧ limit ≤ 9223372036854775807) {s t : Nat × List Nat} {v : Nat} (h : numRd limit s = (v, t)) :
    Hid (∀ wx, RHas wx g s.1 s.2 → Calls Try.prog 39 #[.pointer (some ⟨g, 0, none⟩), .int .i64 limit] wx (RDone wx g (.int .i64 (v : Int)) t)) := Lib.hid fun wx hi => by
  have h1 := rnum_in g s.1 s.2 wx limit hi hl
  rw [show (s.1, s.2) = s from rfl, h] at h1
  exact h1
theorem rtextK {g : Nat} {limit : Int} (hl : -9223372036854775808 ≤ limit ∧ limit ≤ 9223372036854775807) {s t : Nat × List Nat} {v : List Nat} (h : textRd limit s = (v, t)) :
    Hid (∀ wx, RHas wx g s.1 s.2 → Calls Try.prog 40 #[.pointer (some ⟨g, 0, none⟩), .int .i64 limit] wx (RDone wx g (.string (strB v)) t)) := Lib.hid fun wx hi => by
  have h1 := rtext_in g s.1 s.2 wx limit hi hl
  rw [show (s.1, s.2) = s from rfl, h] at h1
  exact h1
theorem ridK {g : Nat} {s t : Nat × List Nat} {v : List Nat} (h : idRd s = (v, t)) :
    Hid (∀ wx, RHas wx g s.1 s.2 → Calls Try.prog 41 #[.pointer (some ⟨g, 0, none⟩)] wx fun e_ w' => e_ = .returned (.agg (arrO v)) ∧ RHas w' g t.1 t.2 ∧ Only (fun k => k = g) wx w') := Lib.hid fun wx hi => by
  have h1 := rid_ok g s.1 s.2 wx hi
  rw [show (s.1, s.2) = s from rfl, h] at h1
  exact h1
theorem numRd_len {limit : Int} {s t : Nat × List Nat} {v : Nat} (h : numRd limit s = (v, t)) : t.2.length ≤ s.2.length := by
  have key : ∀ (B : List Nat) (k n : Nat), (rdNum limit k n B).2.1 = 0 → (rdNum limit k n B).2.2.length ≤ B.length := by
    intro B
    induction B with
    | nil => intro k n h0; by_cases hk : k < 9
             · rw [rdNum_nil limit hk]; simp
             · rw [rdNum_nine limit (by omega)]; simp
    | cons x B ih =>
      intro k n h0
      by_cases hk : k < 9
      · by_cases hx : 128 ≤ x
        · rw [rdNum_more limit hk n hx] at h0 ⊢
          have := ih _ _ h0
          rw [List.length_cons]; omega
        · rw [rdNum_last limit hk n (by omega)]
          split
          · simp
          · split
            · simp
            · rw [List.length_cons]; simp
      · rw [rdNum_nine limit (by omega)]; simp
  unfold numRd at h
  split at h
  · split at h
    · rename_i h0
      rw [Prod.mk.injEq] at h; rw [← h.2]; exact key _ _ _ h0
    · rw [Prod.mk.injEq] at h; rw [← h.2]; exact Nat.le_refl _
  · rw [Prod.mk.injEq] at h; rw [← h.2]; exact Nat.le_refl _
theorem openRd_len {L B : List Nat} {e k : Nat} (h : openRd k L = (e, B)) : B.length ≤ L.length := by
  unfold openRd at h
  split at h
  · split at h
    · rw [Prod.mk.injEq] at h; rw [← h.2]; simp
    · rw [Prod.mk.injEq] at h; rw [← h.2, List.length_drop]; omega
  · rw [Prod.mk.injEq] at h; rw [← h.2]; simp
theorem encN_byte {ns : List Nd} {b : List Nat} {k : Nat} (h : encN ns = (b, k)) (hw : ∀ n ∈ ns, WasRead n) : ∀ x ∈ b, x ≤ 255 := by
  unfold encN at h
  split at h
  · rw [Prod.mk.injEq] at h; rw [← h.1]; simp
  · split at h
    · rw [Prod.mk.injEq] at h; rw [← h.1]; simp
    · split at h
      · rw [Prod.mk.injEq] at h
        rw [← h.1]
        intro x hx
        rw [List.mem_append, List.mem_append] at hx
        rcases hx with (hx | hx) | hx
        · simp at hx; omega
        · exact numL_byte _ x hx
        · obtain ⟨n, hn, hx⟩ := List.mem_flatMap.1 hx
          exact encNd_byte (fun i hi => ((hw n hn).ids i hi).2) (hw n hn).treeb x hx
      · rw [Prod.mk.injEq] at h; rw [← h.1]; simp
theorem run_build_rzero {op : Oper} {a : Act} (ho : op.op = .build 26 #[]) (w : World) : (execOp a.eval op).run Try.prog w = .ok (.value (.agg (ndC noNd none 0 0))) w := by
  have hr : (Instr.build 26 #[]).run Try.prog w = .ok (.agg (ndC noNd none 0 0)) w := by kernel_rfl
  unfold execOp
  simp only [ho, List.map_toArray, List.map_nil, Sem.run_bind, hr, Result.andThen_ok, Sem.run_pure]
set_option maxHeartbeats 16000000 in
set_option maxRecDepth 100000 in
theorem docDecode_ok (L : List Nat) (w : World) (hby : ∀ x ∈ L, x ≤ 255) (hlen : L.length ≤ 5000) :
    Calls Try.prog 24 #[.string (strB L)] w (DecOut 26 w (docDec L)) := by
  obtain ⟨iI, hiI, hzI0, hzI1, hzI2⟩ := info_parts infoI
  obtain ⟨iN, hiN, hzN0, hzN1, hzN2⟩ := info_parts infoR
  have HOP := Lib.hid (ropen_in L w hby (by omega))
  obtain ⟨⟨e0, B0⟩, ho⟩ : ∃ r, openRd 110 L = r := ⟨_, rfl⟩
  obtain ⟨⟨cnt, s0⟩, hn⟩ : ∃ r, numRd 2000 (e0, B0) = r := ⟨_, rfl⟩
  rw [ho] at HOP
  have HDA : Hid (docAll L = docLoop cnt [] s0) := Lib.hid (by unfold docAll; rw [ho, hn])
  have hbB : ∀ x ∈ B0, x ≤ 255 := by
    unfold openRd at ho
    split at ho
    · split at ho
      · rw [Prod.mk.injEq] at ho; rw [← ho.2]; simp
      · rw [Prod.mk.injEq] at ho; rw [← ho.2]; exact fun x hx => hby x (List.mem_of_mem_drop hx)
    · rw [Prod.mk.injEq] at ho; rw [← ho.2]; simp
  have hcn := numRd_le (s := (e0, B0)) hbB (by omega) hn
  have hcnt : cnt ≤ 2000 := by omega
  obtain ⟨r, hr⟩ : ∃ r, docDec L = r := ⟨_, rfl⟩
  rw [hr]
  have HRR := Lib.hid hr
  have HLS : Hid (s0.2.length ≤ 5000 ∧ ∀ x ∈ s0.2, x ≤ 255) := Lib.hid ⟨by
    have h1 := numRd_len hn
    have h2 := openRd_len ho
    simp only at h1
    omega, numRd_bytes (s := (e0, B0)) hbB hn⟩
  have HBY := Lib.hid hby
  clear hr hby hlen hbB hcn ho
  go_enter Try.func24, Try.ntmps24
  go_upto_block 0 with (first
    | (go_at_call 38; go_loud ((with_reducible refine (HOP.out).mono ?_); rintro e1 w1 ⟨g, rfl, hin1, hq1, hg1⟩; have HG := Lib.hid (And.intro hg1 hin1.lt); have HQ1 := Lib.hid hq1; have HI1 := Lib.hid hin1; have HNM := rnumK (g := g) (by omega) hn; clear hin1 hq1 hg1))
    | (go_at_call 39; go_loud ((with_reducible refine (HNM.out _ HI1.out).mono ?_); rintro e2 w2 ⟨rfl, hin2, ho2⟩; have HI2 := Lib.hid hin2; have HO2 := Lib.hid ho2; clear hin2 ho2)))
  clear hn HNM HI1 HOP
  go_cut [6] (fun v wx => Hid (∃ (outs : List NdIn) (s : Nat × List Nat), docAll L = (outs.map (·.n), s) ∧ RHas wx g s.1 s.2 ∧ MadeR w1.heap.size wx 26 v outs ∧ Only (fun k => k = g) w1 wx))
  case first =>
    go_wp2_with fail
    go_loopw [6, 7] (fun v i wr => ∃ (j : Nat) (outs : List NdIn) (s : Nat × List Nat), j ≤ cnt ∧ i = .int .i64 j ∧ outs.length = j ∧ Hid (RHas wr g s.1 s.2 ∧ MadeR w1.heap.size wr 26 v outs ∧ Only (fun k => k = g) w1 wr ∧ docLoop cnt [] s0 = docLoop (cnt - j) (outs.map (·.n)) s)) (fun _ i _ => cnt - (intOf i).toNat)
    case atStart => exact ⟨0, [], s0, by omega, rfl, rfl, HI2.out, MadeR.begin_ _ _ _, HO2.out, by simp⟩
    case round =>
      obtain ⟨j, outs, s, hj, rfl, hol, HJ⟩ := hrel
      obtain ⟨wi, hwi⟩ : ∃ w, w = wr := ⟨_, rfl⟩
      subst hwi
      have HOL := Lib.hid hol
      clear hol
      obtain ⟨N, hN⟩ : ∃ N, N = wi.heap.size := ⟨_, rfl⟩
      have HNN := Lib.hid hN
      clear hN
      by_cases hjc : j < cnt
      -- BODY
      · have HER := Lib.hid HJ.out.1.c1
        by_cases hs : s.1 = 0
        · -- a node is read
          obtain ⟨⟨a, s1⟩, ha⟩ : ∃ r, textRd 255 s = r := ⟨_, rfl⟩
          obtain ⟨⟨k, s2⟩, hk⟩ : ∃ r, numRd 2 s1 = r := ⟨_, rfl⟩
          obtain ⟨⟨m, s3⟩, hm⟩ : ∃ r, numRd 4095 s2 = r := ⟨_, rfl⟩
          obtain ⟨⟨ti, s4⟩, hti⟩ : ∃ r, numRd 1099511627776 s3 = r := ⟨_, rfl⟩
          have HT := rtextK (g := g) (by omega) ha
          have HK := rnumK (g := g) (by omega) hk
          have HM := rnumK (g := g) (by omega) hm
          have HTI := rnumK (g := g) (by omega) hti
          obtain ⟨n0, hn0⟩ : ∃ n0 : Nd, n0 = { noNd with name := strB a, kind := (k : Int), mode := (m : Int), time := (ti : Int) } := ⟨_, rfl⟩
          have hgr : getRd s = tailRd n0 s4 := by
            unfold getRd headRd
            simp only [ha, hk, hm, hti, hn0]
          have hids0 : n0.ids = [] := by rw [hn0]; rfl
          have hkd0 : n0.kind = (k : Int) := by rw [hn0]
          obtain ⟨r7, hr7⟩ : ∃ r, tailRd n0 s4 = r := ⟨_, rfl⟩
          have hb4 : ∀ x ∈ s4.2, x ≤ 255 := by
            have b1 : ∀ x ∈ s1.2, x ≤ 255 := by
              unfold textRd at ha
              obtain ⟨⟨v, u⟩, hv⟩ : ∃ r, numRd (min 255 131072) s = r := ⟨_, rfl⟩
              rw [hv] at ha
              exact rawRd_bytes (numRd_bytes HJ.out.1.byte hv) ha
            exact numRd_bytes (numRd_bytes (numRd_bytes b1 hk) hm) hti
          have HB4 := Lib.hid hb4
          have HK0 := Lib.hid (And.intro hkd0 hids0)
          have HR7 := Lib.hid hr7
          have HGR : Hid (getRd s = r7) := Lib.hid (hgr.trans hr7)
          have HN0 := Lib.hid hn0
          have HIL : Hid (InLike g wi.heap.size (fun w s => RHas w g s.1 s.2)) := Lib.hid ⟨HJ.out.1.lt, fun hi ho hS => hi.only ho (fun hg => by have := hS g hg; have := HJ.out.1.lt; omega)⟩
          have HGW : Hid (g < w1.heap.size ∧ w1.heap.size ≤ wi.heap.size) := Lib.hid ⟨HG.out.2, HJ.out.2.2.1.size⟩
          have HMK : Hid (∀ wx, Only (fun k => k = g) wi wx → MadeR w1.heap.size wx 26 u6 outs) := Lib.hid fun wx ho => HJ.out.2.1.keep ho (fun k hk => by have := HGW.out.1; omega)
          have HSZ : Hid (∀ wx, Only (fun k => k = g) wi wx → w1.heap.size ≤ wx.heap.size) := Lib.hid fun wx ho => Nat.le_trans HGW.out.2 ho.size
          have HOLJ : Hid (outs.length ≤ 2000) := Lib.hid (by rw [HOL.out]; omega)
          have HRB : Hid (∀ (n : Nd) (B : Option Addr) (bn bc : Nat) (acc : List (List Nat)) (s' : Nat × List Nat) (wx w9 : World) (v9 : Value), GetP 26 (fun w s => RHas w g s.1 s.2) wi g N s' n B bn bc (.slice B bn bc) acc wx → acc = n.ids → bn = acc.length → r7 = (n, s') → w9.ownsRow w1.heap.size 26 39 v9 (outs.length + 1) (ndsL outs ++ ndL n B bn bc) → Grew wx w9 u6 v9 →
              RHas w9 g s'.1 s'.2 ∧ MadeR w1.heap.size w9 26 v9 (outs ++ [⟨n, B, bn, bc⟩]) ∧ Only (fun k => k = g) w1 w9 ∧ docLoop cnt [] s0 = docLoop (cnt - (j + 1)) ((outs ++ [(⟨n, B, bn, bc⟩ : NdIn)]).map (·.n)) s') := Lib.hid fun n B bn bc acc s' wx w9 v9 hG hacc hbn hr hown hgr => by
            subst hacc hbn
            have hob := own_block (HMK.out wx hG.only).own
            have ho9 : Only (fun k => (u6 : Value).ownBlock = some k) wx w9 := ⟨hgr.os, hgr.tape, hgr.output, hgr.size, fun k hk hs => hgr.block k hk hs⟩
            have hg1 := HGW.out.1
            refine ⟨hG.inn.only ho9 (fun hk => by have := hob g hk; omega), ?_, (HJ.out.2.2.1.trans hG.only).through ho9 (fun k hk => .inr (hob k hk)), ?_⟩
            · exact HJ.out.2.1.push (z := ⟨n, B, n.ids.length, bc⟩) HGW.out.2 hG.only HGW.out.1 rfl hG.own hgr hown
            · rw [HJ.out.2.2.2, show cnt - j = (cnt - (j + 1)) + 1 by omega, docLoop, if_neg (by simp [hs]), HGR.out, hr, List.map_append]
              rfl
          rw [hs] at HER
          have c1 := HER.out
          clear hgr ha hk hm hti hn0 hids0 hkd0 hb4 hr7 hs
          go_upto_region 12 with (first
            | ((with_reducible refine gate 29 rfl ?_); go_loud (refine wpList_val rfl (run_build_rzero rfl _) ?_))
            | ((with_reducible refine gate 8 rfl ?_); go_loud (refine wpList_alloc_row rfl 26 rfl _ (zeroRN _) 39 _ (ndC_size _ _ _ _) (ndC_get _ _ _ _) ?_; intro wb hrb hxb; have HRb := Lib.hid (And.intro hrb (hxb.q (Q.refl _))); clear hrb hxb))
            | ((with_reducible refine gate0 rfl ?_); (refine wpList_store_all rfl 26 (.tmp 8) (.tmp 29) rfl wi.heap.size rfl _ rfl 39 sizeR _ (nd_agg noNd none 0 0) (fun i _ => ndF_one _ _ _ _ i) 26 _ HRb.out.1 ?_; intro wd hrd hpd; have HG0 : Hid (GetP 26 (fun w s => RHas w g s.1 s.2) wi g N s noNd none 0 0 (.slice none 0 0) [] wd) := Lib.hid (by { rw [HNN.out]; exact ⟨(HJ.out.1.q HRb.out.2).only (S := fun k => k = wi.heap.size) ((Only.refl _ _).put hpd rfl) (by have := HJ.out.1.lt; omega), hrd, Nat.le_refl _, World.ownsRow_nil _ _ _ _, by simp [Value.ownBlock], (Only.of_q HRb.out.2).through ((Only.refl (fun k => k = wi.heap.size) _).put hpd rfl) (fun k hk => .inr (by omega))⟩ }); rw [← HNN.out]; clear hrd hpd))
            | (go_at_call 40; ((with_reducible refine (HT.out _ HG0.out.inn).mono ?_); rintro ea wa ⟨rfl, hina, hoa⟩; have HG1 := Lib.hid (HG0.out.turn HIL.out (s' := s1) hina hoa); clear hina hoa))
            | ((with_reducible refine gate0 rfl ?_); (refine wpList_store_one rfl 9 (.tmp 32) (.tmp 31) rfl N 0 rfl _ rfl sizeT1 rfl rfl 26 39 _ HG1.out.box (by omega) ?_; intro wa hra hpa; have HG2 := Lib.hid (HG1.out.put HIL.out (n' := { noNd with name := strB a }) hpa (hra.congr (name_put _ (strB a) none 0 0))); clear hra hpa))
            | (go_at_call 39; ((with_reducible refine (HK.out _ HG2.out.inn).mono ?_); rintro ea wa ⟨rfl, hina, hoa⟩; have HG3 := Lib.hid (HG2.out.turn HIL.out (s' := s2) hina hoa); clear hina hoa))
            | ((with_reducible refine gate0 rfl ?_); (refine wpList_store_one rfl 3 (.tmp 35) (.tmp 34) rfl N 1 rfl _ rfl sizeI1 rfl rfl 26 39 _ HG3.out.box (by omega) ?_; intro wa hra hpa; have HG4 := Lib.hid (HG3.out.put HIL.out (n' := { noNd with name := strB a, kind := (k : Int) }) hpa (hra.congr (kind_put _ (k : Int) none 0 0))); clear hra hpa))
            | (go_at_call 39; ((with_reducible refine (HM.out _ HG4.out.inn).mono ?_); rintro ea wa ⟨rfl, hina, hoa⟩; have HG5 := Lib.hid (HG4.out.turn HIL.out (s' := s3) hina hoa); clear hina hoa))
            | ((with_reducible refine gate0 rfl ?_); (refine wpList_store_one rfl 3 (.tmp 38) (.tmp 37) rfl N 2 rfl _ rfl sizeI1 rfl rfl 26 39 _ HG5.out.box (by omega) ?_; intro wa hra hpa; have HG6 := Lib.hid (HG5.out.put HIL.out (n' := { noNd with name := strB a, kind := (k : Int), mode := (m : Int) }) hpa (hra.congr (mode_put _ (m : Int) none 0 0))); clear hra hpa))
            | (go_at_call 39; ((with_reducible refine (HTI.out _ HG6.out.inn).mono ?_); rintro ea wa ⟨rfl, hina, hoa⟩; have HG7 := Lib.hid (HG6.out.turn HIL.out (s' := s4) hina hoa); clear hina hoa))
            | ((with_reducible refine gate0 rfl ?_); (refine wpList_store_one rfl 3 (.tmp 41) (.tmp 40) rfl N 3 rfl _ rfl sizeI1 rfl rfl 26 39 _ HG7.out.box (by omega) ?_; intro wa hra hpa; have HG8 := Lib.hid (HG7.out.put HIL.out (n' := { noNd with name := strB a, kind := (k : Int), mode := (m : Int), time := (ti : Int) }) hpa (hra.congr (time_put _ (ti : Int) none 0 0))); clear hra hpa)))
          simp only [Act.put, List.setIfInBounds_toArray, List.set_cons_succ, List.set_cons_zero]
          rw [← HN0.out] at HG8
          clear HG0 HG1 HG2 HG3 HG4 HG5 HG6 HG7 HT HK HM HTI HRb HN0 c1 HER
          obtain ⟨c0, c1, c2, c3, c4, c5, c6⟩ := nd_cells HG8.out.node
          rw [HK0.out.1] at c1
          have hkk : tailRd n0 s4 = r7 := HR7.out
          unfold tailRd at hkk
          have hkd := HK0.out.1
          clear HR7
          by_cases h0 : k = 0
          · subst h0
            rw [if_pos (by omega)] at hkk
            clear hkd
            obtain ⟨⟨z, s5⟩, hz⟩ : ∃ r, numRd 1048576 s4 = r := ⟨_, rfl⟩
            obtain ⟨⟨c, s6⟩, hc⟩ : ∃ r, numRd (z : Int) s5 = r := ⟨_, rfl⟩
            simp only [hz, hc] at hkk
            have hzl := numRd_le HB4.out (by omega) hz
            have hcl := numRd_le (numRd_bytes HB4.out hz) (by omega) hc
            have HKZ := rnumK (g := g) (by omega) hz
            have HKC := rnumK (g := g) (by omega) hc
            obtain ⟨n1, hn1⟩ : ∃ n1 : Nd, n1 = { n0 with size := (z : Int) } := ⟨_, rfl⟩
            have hn1i : { n1 with ids := [] } = n1 := by
              have := HK0.out.2
              rw [hn1]
              cases n0
              simp only at this ⊢
              rw [this]
            have hnr : ∀ l : List (List Nat), ({ n0 with size := (z : Int), ids := l } : Nd) = { n1 with ids := l } := fun l => by rw [hn1]
            rw [hnr] at hkk
            have HKK := Lib.hid hkk
            have HN1 := Lib.hid hn1
            have HN1I := Lib.hid hn1i
            clear hkk hz hc HK0 HB4 hn1 hn1i hnr c0 c2 c3 c4 c5 c6
            go_wp2_with (first
              | (go_at_call 39; ((with_reducible refine (HKZ.out _ HG8.out.inn).mono ?_); rintro ea wa ⟨rfl, hina, hoa⟩; have HGa := Lib.hid (HG8.out.turn HIL.out (s' := s5) hina hoa); clear hina hoa))
              | ((with_reducible refine gate0 rfl ?_); (refine wpList_store_one rfl 3 (.tmp 48) (.tmp 47) rfl N 4 rfl _ rfl sizeI1 rfl rfl 26 39 _ HGa.out.box (by omega) ?_; intro we hre hpe; have HGb := Lib.hid (HGa.out.put HIL.out (n' := n1) hpe (hre.congr (fun i hi => by rw [HN1.out]; exact size_put n0 (z : Int) none 0 0 i hi))); have c4 : we.cell? ⟨N, 4, none⟩ = some (.int .i64 (z : Int)) := by { have h5 := HGb.out.node.size; rw [HN1.out] at h5; exact h5 }; clear hre hpe))
              | (go_at_call 39; ((with_reducible refine (HKC.out _ HGb.out.inn).mono ?_); rintro ea wa ⟨rfl, hina, hoa⟩; have HGc := Lib.hid (HGb.out.turn HIL.out (s' := s6) hina hoa); clear hina hoa)))
            go_loopw [10] (fun i wr => ∃ (q : Nat) (acc : List (List Nat)) (A : Option Addr) (pc : Nat) (t : Nat × List Nat), q ≤ c ∧ i = .int .i64 q ∧ acc.length = q ∧ Hid (GetP 26 (fun w s => RHas w g s.1 s.2) wi g N t { n1 with ids := acc } A q pc (.slice A q pc) acc wr ∧ idsRd c s6 = (acc ++ (idsRd (c - q) t).1, (idsRd (c - q) t).2))) (fun i _ => c - (intOf i).toNat)
            case atStart => exact ⟨0, [], none, 0, s6, by omega, rfl, rfl, by rw [HN1I.out]; exact HGc.out, by simp⟩
            case round =>
              obtain ⟨q, acc, A, pc, t, hq, rfl, hal, HI⟩ := hrel
              obtain ⟨wk, hwk⟩ : ∃ w, w = wr := ⟨_, rfl⟩
              subst hwk
              have HAL := Lib.hid hal
              clear hal
              have c1 := HI.out.1.inn.c1
              by_cases hqc : q < c
              · by_cases hs : t.1 = 0
                · obtain ⟨⟨x, t'⟩, hx⟩ : ∃ r, idRd t = r := ⟨_, rfl⟩
                  have HID := ridK (g := g) hx
                  have HNX : Hid (idsRd c s6 = ((acc ++ [x]) ++ (idsRd (c - (q + 1)) t').1, (idsRd (c - (q + 1)) t').2)) := Lib.hid (by
                    rw [HI.out.2, show c - q = (c - (q + 1)) + 1 by omega]
                    rw [idsRd, if_neg (by simp [hs]), hx]
                    simp)
                  rw [hs] at c1
                  have HJ0 : Hid (PushJ 26 (fun w s => RHas w g s.1 s.2) wi g N t t' n1 A q pc acc x 0 [] wk.drew) := Lib.hid ⟨rfl, HI.out.1.q HIL.out (Below.refl _ _).drew⟩
                  have HGL : Hid (g < wi.heap.size) := Lib.hid HIL.out.lt
                  have HCL : Hid (acc.length = q ∧ q ≤ 1048576) := Lib.hid ⟨HAL.out, by omega⟩
                  clear hx hs
                  go_wp2_with fail
                  -- REGION
                  refine wp_region_factsY (S := List Value) (by kernel_rfl) (by kernel_rfl) (PushJ 26 (fun w s => RHas w g s.1 s.2) wi g N t t' n1 A q pc acc x) (factsX (Gh := PushGh g N (.slice A q pc)) [.is (.pointer (some ⟨N, 6, none⟩)), .is (.slice A q pc), .is (.pointer (some ⟨g, 0, none⟩)), .is (.agg (arrO x)), .that (OneId g N (.slice A q pc) x) (OneId.q) (OneId.g), .that (fun u v _ => v[0]? = some u) (his_q 0) (his_g 0), .is (.pointer (some ⟨N, 6, none⟩)), .any]) (PushGh g N (.slice A q pc)) (fun i => ([none, none, none, some 0, none, some 1, none, some 2] : List (Option Nat)).getD i none) (by kernel_rfl) 3 (by kernel_rfl) (PushJ.q HIL.out) (factsX_q _) (factsX_g _) ([]) (HJ0.out) ?_ ?_
                  · refine ⟨?_, ?_, ?_, ?_, ?_, ?_, ?_, ?_, trivial⟩
                    · intro ax wx vx cx hj hgl hfr hd
                      have f8 : ax.tmps.getD 8 undef = .pointer (some ⟨N, 0, none⟩) := (hfr 8 (by kernel_rfl)).trans rfl
                      have e8 := (getD_form _ _).symm.trans f8
                      exact .inl ⟨wanted_free rfl, OpDoes.run (v := .pointer (some ⟨N, 6, none⟩)) (w' := wx) (by unfold execOp; simp [go_sem, Act.eval, e8]) ⟨Below.refl _ _, rfl⟩⟩
                    · intro ax wx vx cx hj hgl hfr hd
                      have f65 : ax.tmps.getD 65 undef = .pointer (some ⟨N, 6, none⟩) := hd 0 (by kernel_rfl) _ _ rfl rfl
                      have e65 := (getD_form _ _).symm.trans f65
                      have hc := (PushJ.old (hgl 7 _ 2 rfl rfl (by kernel_rfl)) hj).parts
                      rw [Nat.zero_add] at hc
                      exact .inl ⟨wanted_free rfl, OpDoes.run (v := .slice A q pc) (w' := wx) (by unfold execOp; simp [go_sem, Act.eval, e65, hc]) ⟨Below.refl _ _, rfl⟩⟩
                    · intro ax wx vx cx hj hgl hfr hd
                      have f4 : ax.tmps.getD 4 undef = .pointer (some ⟨g, 0, none⟩) := (hfr 4 (by kernel_rfl)).trans rfl
                      have e4 := (getD_form _ _).symm.trans f4
                      exact .inl ⟨wanted_free rfl, OpDoes.run (v := .pointer (some ⟨g, 0, none⟩)) (w' := wx) (by unfold execOp; simp only [Act.eval, f4, Sem.run_pure]) ⟨Below.refl _ _, rfl⟩⟩
                    · intro ax wx vx hj hfr hd
                      have f67 : ax.tmps.getD 67 undef = .pointer (some ⟨g, 0, none⟩) := hd 2 (by kernel_rfl) _ _ rfl rfl
                      have e67 := (getD_form _ _).symm.trans f67
                      exact ⟨wanted_free rfl, OpDoes.call (f := 41) (args := #[.pointer (some ⟨g, 0, none⟩)]) (w' := wx) (by unfold execOp; simp [go_sem, Act.eval, e67]) ((HID.out wx hj.2.inn).mono fun e_ w2 ⟨h1, h2, h3⟩ => ⟨_, h1, vx, (PushJ.s0 HIL.out hj h2 h3).1, (PushJ.s0 HIL.out hj h2 h3).2, rfl⟩)⟩
                    · intro ax wx vx cx hj hgl hfr hd
                      have f68 : ax.tmps.getD 68 undef = .agg (arrO x) := hd 3 (by kernel_rfl) _ _ rfl rfl
                      have e68 := (getD_form _ _).symm.trans f68
                      exact .inl ⟨wanted_free rfl, OpDoes.run (run_row_id (.tmp 68) rfl x f68 wx) ⟨(Q.refl wx).alloc _, PushJ.newId HGL.out hj x⟩⟩
                    · intro ax wx vx hj hfr hd
                      have f66 : ax.tmps.getD 66 undef = .slice A q pc := hd 1 (by kernel_rfl) _ _ rfl rfl
                      have e66 := (getD_form _ _).symm.trans f66
                      have h69 : (OneId g N (.slice A q pc) x) (ax.tmps.getD 69 undef) vx wx := hd 4 (by kernel_rfl) _ _ rfl rfl
                      obtain ⟨k, e33, k2, k3, k4, k5, k6⟩ := h69
                      refine ⟨wanted_free rfl, does_append (.tmp 66) (.tmp 69) 22 rfl wi.heap.size 24 iI _ 32 32 Try.underlying22 hiI hzI0 hzI1 hzI2 rfl (by omega) _ acc.length (idsL acc) f66 hj.2.own (· = k) (some ⟨k, 0, none⟩) 1 1 (gL x) e33 (fun h => by cases h) (gL_len _) k6 (gL_one _) (by have := HCL.out; unfold maxLen; omega) (by have := HCL.out; omega) hj.2.only.size fun v' w' hown hgr => ?_⟩
                      obtain ⟨q1, q2, q3⟩ := PushJ.s1 HIL.out HCL.out.1 hj hgr hown
                      exact ⟨_, q1, q2, q3⟩
                    · intro ax wx vx cx hj hgl hfr hd
                      have f8 : ax.tmps.getD 8 undef = .pointer (some ⟨N, 0, none⟩) := (hfr 8 (by kernel_rfl)).trans rfl
                      have e8 := (getD_form _ _).symm.trans f8
                      exact .inl ⟨wanted_free rfl, OpDoes.run (v := .pointer (some ⟨N, 6, none⟩)) (w' := wx) (by unfold execOp; simp [go_sem, Act.eval, e8]) ⟨Below.refl _ _, rfl⟩⟩
                    · intro ax wx vx hj hfr hd
                      have f71 : ax.tmps.getD 71 undef = .pointer (some ⟨N, 6, none⟩) := hd 6 (by kernel_rfl) _ _ rfl rfl
                      have e71 := (getD_form _ _).symm.trans f71
                      have h70 : (fun u v _ => v[0]? = some u) (ax.tmps.getD 70 undef) vx wx := hd 5 (by kernel_rfl) _ _ rfl rfl
                      obtain ⟨B', bc', ev, hp2⟩ := id hj
                      have e34 : ax.tmps.getD 70 undef = .slice B' (q + 1) bc' := by
                        rw [ev] at h70
                        simpa using h70.symm
                      refine ⟨wanted_free rfl, does_store_one 22 (.tmp 71) (.tmp 70) rfl N 6 f71 _ e34 sizeR1 rfl rfl 26 39 _ hp2.box (by omega) fun w' hrow hput => ?_⟩
                      obtain ⟨q1, q2⟩ := PushJ.s2 HIL.out hj (by rw [ev]; rfl) hput hrow
                      exact ⟨_, q1, q2, trivial⟩
                  · intro us wx vx hj hf
                    have HJX := Lib.hid hj
                    clear hf hj
                    simp only [fillSlots, List.setIfInBounds_toArray, List.set_cons_succ, List.set_cons_zero]
                  -- DNE
                    obtain ⟨B, bc, ev, hG3⟩ := HJX.out
                    have HG3 := Lib.hid hG3
                    clear hG3 ev
                    go_wp2_with fail
                    go_roundw
                    case rel => exact ⟨q + 1, acc ++ [x], B, bc, t', by omega, by go_num, by rw [List.length_append, HAL.out]; rfl, HG3.out, HNX.out⟩
                    case measure => simp [intOf]; omega
                · have HNX : Hid (r7 = ({ n1 with ids := acc }, t)) := Lib.hid (by
                    rw [← HKK.out, HI.out.2, idsRd_stop _ hs]
                    simp)
                  have hb0 : ((t.1 : Int) == 0) = false := beq_eq_false_iff_ne.2 (by omega)
                  go_wp2_with (first
                    | ((with_reducible refine gate 83 rfl ?_); go_loud (refine wpList_val rfl (load_rnode (.tmp 8) rfl rfl HI.out.1.node) ?_))
                    | ((with_reducible refine gate 84 rfl ?_); go_loud (refine wpList_val rfl (run_row_rnode (.tmp 83) rfl ({ n1 with ids := acc }) A q pc rfl _) ?_))
                    | ((with_reducible refine gate 85 rfl ?_); go_loud (refine wpList_append_agg rfl (.tmp 82) (.tmp 84) 29 rfl w1.heap.size 26 iN _ 39 120 Try.underlying29 hiN hzN0 hzN1 hzN2 rfl (by omega) _ outs.length (ndsL outs) rfl (HMK.out _ HI.out.1.only).own (ndL ({ n1 with ids := acc }) A q pc) _ _ rfl rfl (ndL_len _ _ _ _) (ndL_one _ _ _ _) (by have := HOLJ.out; unfold maxLen; omega) (by have := HOLJ.out; omega) (HSZ.out _ HI.out.1.only) ?_; intro v9 w9 hown9 hgr9 _; have HV9 := Lib.hid (And.intro hown9 hgr9); clear hown9 hgr9)))
                  go_roundw
                  case rel =>
                    obtain ⟨q1, q2, q3, q4⟩ := HRB.out _ _ _ _ _ _ _ _ _ HI.out.1 rfl HAL.out.symm HNX.out HV9.out.1 HV9.out.2
                    exact ⟨j + 1, _, _, by omega, by go_num, by rw [List.length_append, HOL.out]; rfl, q1, q2, q3, q4⟩
                  case measure => simp [intOf]; omega
              · obtain rfl : q = c := by omega
                have HNX : Hid (r7 = ({ n1 with ids := acc }, t)) := Lib.hid (by
                  rw [← HKK.out, HI.out.2, Nat.sub_self]
                  simp [idsRd])
                go_wp2_with (first
                  | ((with_reducible refine gate 83 rfl ?_); go_loud (refine wpList_val rfl (load_rnode (.tmp 8) rfl rfl HI.out.1.node) ?_))
                  | ((with_reducible refine gate 84 rfl ?_); go_loud (refine wpList_val rfl (run_row_rnode (.tmp 83) rfl ({ n1 with ids := acc }) A q pc rfl _) ?_))
                  | ((with_reducible refine gate 85 rfl ?_); go_loud (refine wpList_append_agg rfl (.tmp 82) (.tmp 84) 29 rfl w1.heap.size 26 iN _ 39 120 Try.underlying29 hiN hzN0 hzN1 hzN2 rfl (by omega) _ outs.length (ndsL outs) rfl (HMK.out _ HI.out.1.only).own (ndL ({ n1 with ids := acc }) A q pc) _ _ rfl rfl (ndL_len _ _ _ _) (ndL_one _ _ _ _) (by have := HOLJ.out; unfold maxLen; omega) (by have := HOLJ.out; omega) (HSZ.out _ HI.out.1.only) ?_; intro v9 w9 hown9 hgr9 _; have HV9 := Lib.hid (And.intro hown9 hgr9); clear hown9 hgr9)))
                go_roundw
                case rel =>
                  obtain ⟨q1, q2, q3, q4⟩ := HRB.out _ _ _ _ _ _ _ _ _ HI.out.1 rfl HAL.out.symm HNX.out HV9.out.1 HV9.out.2
                  exact ⟨j + 1, _, _, by omega, by go_num, by rw [List.length_append, HOL.out]; rfl, q1, q2, q3, q4⟩
                case measure => simp [intOf]; omega
          by_cases h1 : k = 1
          · subst h1
            rw [if_neg (by omega), if_pos (by omega)] at hkk
            clear hkd
            obtain ⟨⟨x, s5⟩, hx⟩ : ∃ r, idRd s4 = r := ⟨_, rfl⟩
            rw [hx] at hkk
            have HKK := Lib.hid hkk
            have HID := ridK (g := g) hx
            have HIDS := Lib.hid HK0.out.2
            clear hkk hx HK0 h0 HB4
            go_wp2_with (first
              | (go_at_call 41; ((with_reducible refine (HID.out _ HG8.out.inn).mono ?_); rintro ea wa ⟨rfl, hina, hoa⟩; have HGx := Lib.hid (HG8.out.turn HIL.out (s' := s5) hina hoa); clear hina hoa))
              | ((with_reducible refine gate0 rfl ?_); (refine wpList_store_agg rfl 24 (.tmp 76) (.tmp 75) rfl N 7 rfl _ rfl 32 sizeI _ (arrO_agg x) (fun i _ => rfl) 26 39 _ HGx.out.box (by omega) ?_; intro we hre hpe; have HGy := Lib.hid (HGx.out.put HIL.out (n' := { n0 with tree := x }) hpe (hre.congr (tree_put n0 x none 0 0))); clear hre hpe))
              | ((with_reducible refine gate 83 rfl ?_); go_loud (refine wpList_val rfl (load_rnode (.tmp 8) rfl rfl HGy.out.node) ?_))
              | ((with_reducible refine gate 84 rfl ?_); go_loud (refine wpList_val rfl (run_row_rnode (.tmp 83) rfl ({ n0 with tree := x }) none 0 0 rfl _) ?_))
              | ((with_reducible refine gate 85 rfl ?_); go_loud (refine wpList_append_agg rfl (.tmp 82) (.tmp 84) 29 rfl w1.heap.size 26 iN _ 39 120 Try.underlying29 hiN hzN0 hzN1 hzN2 rfl (by omega) _ outs.length (ndsL outs) rfl (HMK.out _ HGy.out.only).own (ndL ({ n0 with tree := x }) none 0 0) _ _ rfl rfl (ndL_len _ _ _ _) (ndL_one _ _ _ _) (by have := HOLJ.out; unfold maxLen; omega) (by have := HOLJ.out; omega) (HSZ.out _ HGy.out.only) ?_; intro v9 w9 hown9 hgr9 _; have HV9 := Lib.hid (And.intro hown9 hgr9); clear hown9 hgr9)))
            go_roundw
            case rel =>
              obtain ⟨q1, q2, q3, q4⟩ := HRB.out _ _ _ _ _ _ _ _ _ HGy.out HIDS.out.symm (by simp) HKK.out.symm HV9.out.1 HV9.out.2
              exact ⟨j + 1, _, _, by omega, by go_num, by rw [List.length_append, HOL.out]; rfl, q1, q2, q3, q4⟩
            case measure => simp [intOf]; omega
          by_cases h2 : k = 2
          · subst h2
            rw [if_neg (by omega), if_neg (by omega), if_pos (by omega)] at hkk
            clear hkd
            obtain ⟨⟨x, s5⟩, hx⟩ : ∃ r, textRd 4095 s4 = r := ⟨_, rfl⟩
            rw [hx] at hkk
            have HKK := Lib.hid hkk
            have HTX := rtextK (g := g) (by omega) hx
            have HIDS := Lib.hid HK0.out.2
            clear hkk hx HK0 h0 h1 HB4
            go_wp2_with (first
              | (go_at_call 40; ((with_reducible refine (HTX.out _ HG8.out.inn).mono ?_); rintro ea wa ⟨rfl, hina, hoa⟩; have HGx := Lib.hid (HG8.out.turn HIL.out (s' := s5) hina hoa); clear hina hoa))
              | ((with_reducible refine gate0 rfl ?_); (refine wpList_store_one rfl 9 (.tmp 81) (.tmp 80) rfl N 5 rfl _ rfl sizeT1 rfl rfl 26 39 _ HGx.out.box (by omega) ?_; intro we hre hpe; have HGy := Lib.hid (HGx.out.put HIL.out (n' := { n0 with target := strB x }) hpe (hre.congr (target_put n0 (strB x) none 0 0))); clear hre hpe))
              | ((with_reducible refine gate 83 rfl ?_); go_loud (refine wpList_val rfl (load_rnode (.tmp 8) rfl rfl HGy.out.node) ?_))
              | ((with_reducible refine gate 84 rfl ?_); go_loud (refine wpList_val rfl (run_row_rnode (.tmp 83) rfl ({ n0 with target := strB x }) none 0 0 rfl _) ?_))
              | ((with_reducible refine gate 85 rfl ?_); go_loud (refine wpList_append_agg rfl (.tmp 82) (.tmp 84) 29 rfl w1.heap.size 26 iN _ 39 120 Try.underlying29 hiN hzN0 hzN1 hzN2 rfl (by omega) _ outs.length (ndsL outs) rfl (HMK.out _ HGy.out.only).own (ndL ({ n0 with target := strB x }) none 0 0) _ _ rfl rfl (ndL_len _ _ _ _) (ndL_one _ _ _ _) (by have := HOLJ.out; unfold maxLen; omega) (by have := HOLJ.out; omega) (HSZ.out _ HGy.out.only) ?_; intro v9 w9 hown9 hgr9 _; have HV9 := Lib.hid (And.intro hown9 hgr9); clear hown9 hgr9)))
            go_roundw
            case rel =>
              obtain ⟨q1, q2, q3, q4⟩ := HRB.out _ _ _ _ _ _ _ _ _ HGy.out HIDS.out.symm (by simp) HKK.out.symm HV9.out.1 HV9.out.2
              exact ⟨j + 1, _, _, by omega, by go_num, by rw [List.length_append, HOL.out]; rfl, q1, q2, q3, q4⟩
            case measure => simp [intOf]; omega
          · rw [if_neg (by omega), if_neg (by omega), if_neg (by omega)] at hkk
            clear hkd
            have HKK := Lib.hid hkk
            have HIDS := Lib.hid HK0.out.2
            have hb0 : ((k : Int) == 0) = false := beq_eq_false_iff_ne.2 (by omega)
            have hb1 : ((k : Int) == 1) = false := beq_eq_false_iff_ne.2 (by omega)
            have hb2 : ((k : Int) == 2) = false := beq_eq_false_iff_ne.2 (by omega)
            clear hkk HK0 HB4
            go_wp2_with (first
              | ((with_reducible refine gate 83 rfl ?_); go_loud (refine wpList_val rfl (load_rnode (.tmp 8) rfl rfl HG8.out.node) ?_))
              | ((with_reducible refine gate 84 rfl ?_); go_loud (refine wpList_val rfl (run_row_rnode (.tmp 83) rfl (n0) none 0 0 rfl _) ?_))
              | ((with_reducible refine gate 85 rfl ?_); go_loud (refine wpList_append_agg rfl (.tmp 82) (.tmp 84) 29 rfl w1.heap.size 26 iN _ 39 120 Try.underlying29 hiN hzN0 hzN1 hzN2 rfl (by omega) _ outs.length (ndsL outs) rfl (HMK.out _ HG8.out.only).own (ndL (n0) none 0 0) _ _ rfl rfl (ndL_len _ _ _ _) (ndL_one _ _ _ _) (by have := HOLJ.out; unfold maxLen; omega) (by have := HOLJ.out; omega) (HSZ.out _ HG8.out.only) ?_; intro v9 w9 hown9 hgr9 _; have HV9 := Lib.hid (And.intro hown9 hgr9); clear hown9 hgr9)))
            go_roundw
            case rel =>
              obtain ⟨q1, q2, q3, q4⟩ := HRB.out _ _ _ _ _ _ _ _ _ HG8.out HIDS.out.symm (by simp) HKK.out.symm HV9.out.1 HV9.out.2
              exact ⟨j + 1, _, _, by omega, by go_num, by rw [List.length_append, HOL.out]; rfl, q1, q2, q3, q4⟩
            case measure => simp [intOf]; omega
      -- YDOB
        · have hne : ((s.1 : Int) == 0) = false := beq_eq_false_iff_ne.2 (by omega)
          have c1 := HER.out
          have HD : Hid (docAll L = (outs.map (·.n), s)) := Lib.hid (by rw [HDA.out, HJ.out.2.2.2, docLoop_stop _ _ _ hs])
          go_wp2_with fail
          go_meet
          exact Lib.hid ⟨outs, s, HD.out, HJ.out.1, HJ.out.2.1, HJ.out.2.2.1⟩
      · obtain rfl : j = cnt := by omega
        have HD : Hid (docAll L = (outs.map (·.n), s)) := Lib.hid (by rw [HDA.out, HJ.out.2.2.2, Nat.sub_self]; rfl)
        go_wp2_with fail
        go_meet
        exact Lib.hid ⟨outs, s, HD.out, HJ.out.1, HJ.out.2.1, HJ.out.2.2.1⟩
  case rest =>
  obtain ⟨outs, s, hda, hin, hmd, hon⟩ := hcut.out
  have hr2 := HRR.out
  unfold docDec at hr2
  rw [hda] at hr2
  simp only at hr2
  have HEN := Lib.hid (rend_in g s.1 s.2 wc hin)
  rw [show (s.1, s.2) = s from rfl] at HEN
  obtain ⟨t8, ht8⟩ : ∃ t, endRd s = t := ⟨_, rfl⟩
  rw [ht8] at HEN hr2
  obtain ⟨A5, c5, hv5⟩ := own_form hmd.own
  have HMD := Lib.hid hmd
  have HON := Lib.hid hon
  have HGQ : Hid (∀ wx, Only (fun k => k = g) w1 wx → Q w wx) := Lib.hid fun wx ho => ho.q HQ1.out (fun k hk => by rw [hk]; exact HG.out.1)
  by_cases he : t8.1 = 0
  · rw [if_neg (by simp [he])] at hr2
    obtain ⟨e1, e2⟩ := end_zero.1 (by rw [ht8]; exact he)
    obtain ⟨hwr, rr, hrr, hss⟩ := docLoop_sound cnt [] (outs.map (·.n)) s0 s (by rw [← HDA.out]; exact hda) e1 HLS.out.2 (by simp)
    rw [List.nil_append] at hrr
    have HWR : Hid (∀ z ∈ outs, WasRead z.n) := Lib.hid fun z hz => hwr z.n (List.mem_map_of_mem hz)
    have HPN : Hid (∀ z ∈ outs, z.pn ≤ 5000) := Lib.hid fun z hz => by
      have h1 := encNd_ids (HWR.out z hz)
      have h2 : (encNd z.n).length ≤ (rr.flatMap encNd).length := mem_flat_len (by rw [← hrr]; exact List.mem_map_of_mem hz)
      have h3 := HLS.out.1
      have h4 := (HMD.out.parts z hz).1
      rw [hss, List.length_append] at h3
      omega
    obtain ⟨⟨b1, k1⟩, henc⟩ : ∃ p, encN (outs.map (·.n)) = p := ⟨_, rfl⟩
    rw [henc] at hr2
    simp only at hr2
    have HR2 := Lib.hid hr2
    have HENC := Lib.hid henc
    have hb1 : ∀ x ∈ b1, x ≤ 255 := encN_byte henc (fun n hn => hwr n hn)
    have hbe : ((strB b1).toList == (strB L).toList) = decide (b1 = L) := strB_beq hb1 HBY.out
    have HDE : Hid (∀ wx, Only (fun k => k = g) wc wx → Calls Try.prog 17 #[.slice A5 outs.length c5] wx (DocOut wx (b1, k1))) := Lib.hid fun wx ho => by
      have hm2 := HMD.out.keep ho (fun k hk => by have := HG.out.2; omega)
      obtain ⟨A6, c6, hv6, hN6⟩ := hm2.nodesAt HWR.out
      rw [hv5] at hv6
      injection hv6 with h1 h2 h3
      subst h1 h3
      have h4 := docEncode_ok A5 outs.length c5 outs wx rfl (by have := HMD.out.own; rcases this.2 with ⟨_, h⟩ | ⟨gg, cap, cur, _, _, _, hle, hmx, _⟩ <;> (try unfold maxLen at *) <;> omega) hN6 HPN.out
      rw [HENC.out] at h4
      exact h4
    rw [he] at HEN
    have HV5 := Lib.hid hv5
    clear hr2 hrr hss hwr henc hda hin hmd hon e1 e2 ht8 he hb1
    subst hv5
    by_cases hk : k1 = 0
    · subst hk
      by_cases hL : b1 = L
      · have HRN : Hid (r = (outs.map (·.n), 0)) := Lib.hid (by rw [← HR2.out, if_neg (by simp [hL])])
        have hbt : ((strB b1).toList == (strB L).toList) = true := by rw [hbe]; exact decide_eq_true hL
        clear hbe hL
        go_wp2_with (first
          | (go_at_call 42; go_loud ((with_reducible refine (HEN.out).mono ?_); rintro e5 w5 ⟨rfl, hin5, ho5⟩; have HO5 := Lib.hid ho5; have HDX := Lib.hid (HDE.out _ HO5.out); clear hin5 ho5))
          | (go_at_call 17; go_loud ((with_reducible refine (HDX.out).mono ?_); rintro e6 w6 ⟨rfl, hq6⟩; have HQ6 := Lib.hid hq6.out; clear hq6)))
        go_ret2
        rw [HRN.out]
        exact ⟨A5, c5, outs, rfl, rfl, Lib.hid ⟨((HMD.out.keep HO5.out (fun k hk => by have := HG.out.2; omega)).q HQ6.out).mono HQ1.out.size, (HGQ.out _ (HON.out.trans HO5.out)).step HQ6.out⟩⟩
      · have HRN : Hid (r = ([], 2)) := Lib.hid (by rw [← HR2.out, if_pos (.inr hL)])
        have hbt : ((strB b1).toList == (strB L).toList) = false := by rw [hbe]; exact decide_eq_false hL
        clear hbe hL
        go_wp2_with (first
          | (go_at_call 42; go_loud ((with_reducible refine (HEN.out).mono ?_); rintro e5 w5 ⟨rfl, hin5, ho5⟩; have HO5 := Lib.hid ho5; have HDX := Lib.hid (HDE.out _ HO5.out); clear hin5 ho5))
          | (go_at_call 17; go_loud ((with_reducible refine (HDX.out).mono ?_); rintro e6 w6 ⟨rfl, hq6⟩; have HQ6 := Lib.hid hq6.out; clear hq6)))
        go_ret2
        rw [HRN.out]
        exact decOut_none ((HGQ.out _ (HON.out.trans HO5.out)).step HQ6.out)
    · have HRN : Hid (r = ([], 2)) := Lib.hid (by rw [← HR2.out, if_pos (.inl hk)])
      have hne : ((k1 : Int) == 0) = false := beq_eq_false_iff_ne.2 (by omega)
      clear hbe
      go_wp2_with (first
        | (go_at_call 42; go_loud ((with_reducible refine (HEN.out).mono ?_); rintro e5 w5 ⟨rfl, hin5, ho5⟩; have HO5 := Lib.hid ho5; have HDX := Lib.hid (HDE.out _ HO5.out); clear hin5 ho5))
        | (go_at_call 17; go_loud ((with_reducible refine (HDX.out).mono ?_); rintro e6 w6 ⟨rfl, hq6⟩; have HQ6 := Lib.hid hq6.out; clear hq6)))
      go_ret2
      rw [HRN.out]
      exact decOut_none ((HGQ.out _ (HON.out.trans HO5.out)).step HQ6.out)
  · rw [if_pos he] at hr2
    have HRN := Lib.hid hr2.symm
    have hne : ((t8.1 : Int) == 0) = false := beq_eq_false_iff_ne.2 (by omega)
    clear hr2 hda hin hmd hon ht8
    subst hv5
    go_wp2_with (first
      | (go_at_call 42; go_loud ((with_reducible refine (HEN.out).mono ?_); rintro e5 w5 ⟨rfl, hin5, ho5⟩; have HO5 := Lib.hid ho5; clear hin5 ho5)))
    go_ret2
    rw [HRN.out]
    exact decOut_none (HGQ.out _ (HON.out.trans HO5.out))
end Go.Proofs.Ytffenfhbiapefaa
