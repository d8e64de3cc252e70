/- The walk through NodeApart. -/
import Derived.Test.YtffenfhbiapefaaNbk
namespace Go.Proofs.Ytffenfhbiapefaa
set_option linter.unusedVariables false
set_option linter.unusedSimpArgs false
open Go.RowKit

theorem own_rowIs {w : World} {base n cap size : Nat} {e : TypeId} {A : Option Addr} {xs : List Value} (h : w.ownsRow base e size (.slice A n cap) n xs) (hn : 0 < n) : ∃ g f, A = some ⟨g, 0, none⟩ ∧ base ≤ g ∧ w.rowIs g e (cap * size) f ∧ n ≤ cap ∧ cap ≤ maxLen := by
  rcases h.2 with ⟨h1, h2⟩ | ⟨g, cap', cur, h1, h2, h3, h4, h5, h6, h7⟩
  · omega
  · injection h1 with h8 _ h9
    subst h9
    exact ⟨g, fun i => cur.getD i undef, h8, h2, ⟨cur, h3, h6, fun i hi => by
      show cur[i]? = some (cur.getD i undef)
      rw [Array.getD_eq_getD_getElem?, Array.getElem?_eq_getElem (by omega)]; rfl⟩, h4, h5⟩
theorem rowIs_own {w : World} {base n cap size g : Nat} {e : TypeId} {f : Nat → Value} (h : w.rowIs g e (cap * size) f) (hb : base ≤ g) (hn : n ≤ cap) (hm : cap ≤ maxLen) : ∃ xs, w.ownsRow base e size (.slice (some ⟨g, 0, none⟩) n cap) n xs := by
  obtain ⟨cur, h1, h2, h3⟩ := h
  refine ⟨cur.toList.take (n * size), ?_, .inr ⟨g, cap, cur, rfl, hb, h1, hn, hm, h2, rfl⟩⟩
  rw [List.length_take, Array.length_toList, h2]
  exact Nat.min_eq_left (Nat.mul_le_mul_right _ hn)
/-- Nodes i and later still are as they were read. -/
structure ApI (base : Nat) (w : World) (gm c : Nat) (outs : List NdIn) (i : Nat) : Prop where
  row : ∀ j (hj : j < outs.length), i ≤ j → NodeAt w gm (j * 39) outs[j].n outs[j].A outs[j].pn outs[j].pc
  own : i < outs.length → gm < w.heap.size ∧ ∃ F, w.rowIs gm 33 (c * 39) F
  parts : ∀ j (hj : j < outs.length), i ≤ j → w.ownsRow base 24 32 (.slice outs[j].A outs[j].pn outs[j].pc) outs[j].pn (idsL outs[j].n.ids)
theorem ApI.keep {base gm c i : Nat} {w w' : World} {outs : List NdIn} (h : ApI base w gm c outs i) {S : Nat → Prop} (ho : Only S w w') (hg : ¬ S gm) (hp : ∀ j (hj : j < outs.length), i ≤ j → ∀ k, (Value.slice outs[j].A outs[j].pn outs[j].pc).ownBlock = some k → ¬ S k) : ApI base w' gm c outs i := by
  refine ⟨fun j hj hij t ht => ?_, fun hi => ?_, fun j hj hij => own_only (h.parts j hj hij) ho (hp j hj hij)⟩
  · rw [← h.row j hj hij t ht]
    exact Only.cell ho (p := ⟨gm, j * 39 + t, none⟩) (h.own (by omega)).1 hg
  · obtain ⟨h1, F, h2⟩ := h.own hi
    exact ⟨Nat.lt_of_lt_of_le h1 ho.size, F, ho.row h2 hg⟩
theorem ApI.q {base gm c i : Nat} {w w' : World} {outs : List NdIn} (h : ApI base w gm c outs i) (hq : Q w w') : ApI base w' gm c outs i := h.keep (S := fun _ => False) (Only.of_q hq) id (fun _ _ _ _ _ h => h)
theorem ApI.next {base gm c i : Nat} {w : World} {outs : List NdIn} (h : ApI base w gm c outs i) : ApI base w gm c outs (i + 1) := ⟨fun j hj hij => h.row j hj (by omega), fun hi => h.own (by omega), fun j hj hij => h.parts j hj (by omega)⟩
/-- The list's slice of node i was stored. -/
theorem ApI.put {base gm c i : Nat} {w w' : World} {outs : List NdIn} (h : ApI base w gm c outs (i + 1)) {F : Nat → Value} {v : Value} (hF : w.rowIs gm 33 (c * 39) F) (hc : outs.length ≤ c) (hi : i < outs.length) (hp : Put gm w w') (hr : w'.rowIs gm 33 (c * 39) (fun t => if t = i * 39 + 6 then v else F t))
    (hpb : ∀ j (hj : j < outs.length), i + 1 ≤ j → (Value.slice outs[j].A outs[j].pn outs[j].pc).ownBlock ≠ some gm) : ApI base w' gm c outs (i + 1) := by
  refine ⟨fun j hj hij t ht => ?_, fun _ => ⟨hr.lt, _, hr⟩, fun j hj hij => own_only (h.parts j hj hij) ((Only.refl (fun k => k = gm) w).put hp rfl) (fun k hk e => hpb j hj hij (by rw [hk, e]))⟩
  have hb : j * 39 + t < c * 39 := by
    have : (j + 1) * 39 ≤ c * 39 := Nat.mul_le_mul_right _ (by omega)
    omega
  rw [← h.row j hj hij t ht, hr.cell hb, hF.cell hb, if_neg]
  omega
theorem nodesAt_only {S : Nat → Prop} {w w' : World} {A : Option Addr} {zs : List NdIn} (h : NodesAt w A zs) (ho : Only S w w') (hS : ∀ k, S k → w.heap.size ≤ k) : NodesAt w' A zs :=
  ⟨(ho.sees h.row (fun b hb => ⟨hb, fun hs => by have := hS b hs; omega⟩)).more fun b hb => Nat.lt_of_lt_of_le hb ho.size, fun z hz => (ho.sees (h.parts z hz) (fun b hb => ⟨hb, fun hs => by have := hS b hs; omega⟩)).more fun b hb => Nat.lt_of_lt_of_le hb ho.size, h.fit⟩
theorem ApI.one {base gm c i : Nat} {w : World} {outs : List NdIn} (h : ApI base w gm c outs i) (hi : i < outs.length) (hc : outs.length ≤ c) (hr : WasRead outs[i].n) (hp : outs[i].pn = outs[i].n.ids.length) : NodesAt w (cutA (some ⟨gm, 0, none⟩) c i 39) [outs[i]] := by
  have hcut : cutA (some ⟨gm, 0, none⟩) c i 39 = some ⟨gm, i * 39, none⟩ := by
    unfold cutA
    rw [if_neg (by omega)]
    simp [Addr.add]
    omega
  rw [hcut]
  refine ⟨fun _ => ⟨gm, i * 39, rfl, (h.own hi).1, fun t u hu => ?_⟩, fun z hz => ?_, fun z hz => ?_⟩
  · have hu2 : (ndL outs[i].n outs[i].A outs[i].pn outs[i].pc)[t]? = some u := by simpa [ndsL] using hu
    have ht : t < 39 := by
      have := (List.getElem?_eq_some_iff.1 hu2).1
      rw [ndL_len] at this; exact this
    rw [h.row i hi (Nat.le_refl _) t ht]
    rw [ndL_get _ _ _ _ _ ht] at hu2
    exact hu2
  · rw [List.mem_singleton.1 hz]
    exact (own_seesS (h.parts i hi (Nat.le_refl _))).more fun b hb => hb.2
  · rw [List.mem_singleton.1 hz]
    exact hr.fits hp
theorem from_one {z : NdIn} {A : Option Addr} {c : Nat} {w : World} (h : NodesAt w A [z]) :
    Calls Try.prog 20 #[.slice A 1 c] w fun e w' => ∃ v, e = .returned v ∧ Below w.heap.size w w' ∧ RowAt 1 [z] v w' := by
  refine (from_ok A 1 c [z] w rfl (by omega) h).mono fun e w' ⟨v, he, hr⟩ => ?_
  obtain ⟨A6, c6, rfl, hN6⟩ := hr.out.nodesAt h.parts h.fit
  exact ⟨_, he, hr.out.q, A6, c6, rfl, hN6⟩
theorem sorted_fewC {A0 : Option Addr} {nn nc : Nat} {zs : List NdIn} {w : World} (hz : zs.length = nn) (hn : nn ≤ 9223372036854775807) (h : NodesAt w A0 zs) :
    Calls Try.prog 16 #[.slice A0 nn nc] w fun e w1 => ∃ A1 c1, e = .returned (.slice A1 (fewL zs).length c1) ∧ Q w w1 ∧
      Calls Try.prog 21 #[.slice A1 (fewL zs).length c1] w1 fun e w2 => ∃ A2 c2, e = .returned (.slice A2 (sortN (fewL zs)).length c2) ∧ Hid (NodesAt w2 A2 (sortN (fewL zs)) ∧ Q w1 w2 ∧ (sortN (fewL zs)).length ≤ c2) := by
  refine (few_ok A0 nn nc zs w hz hn h).mono fun e w' ⟨v, he, hr⟩ => ?_
  obtain ⟨A, c, rfl, hN⟩ := hr.out.nodesAt (fun z hz' => h.parts z (fewL_mem z hz')) (fun z hz' => h.fit z (fewL_mem z hz'))
  refine ⟨A, c, he, hr.out.q, ?_⟩
  refine (sorted_ok A _ c _ w' rfl (by have := fewL_len (zs := zs); omega) hN).mono fun e2 w2 ⟨v2, he2, hr2⟩ => ?_
  obtain ⟨A2, c2, rfl, hN2⟩ := hr2.out.nodesAt (fun z hz' => hN.parts z ((sortN_all _).1 z hz').1) (fun z hz' => hN.fit z ((sortN_all _).1 z hz').1)
  exact ⟨A2, c2, he2, Lib.hid ⟨hN2, hr2.out.q, (own_capS hr2.out.own).1⟩⟩
theorem run_build_id255 {op : Oper} {a : Act} (x : Operand) (ho : op.op = .build 24 #[(0, x)]) (hx : a.eval x = .int .u8 255) (w : World) : (execOp a.eval op).run Try.prog w = .ok (.value (.agg (arrO [255]))) w := by
  have hr : (Instr.build 24 #[(0, .int .u8 255)]).run Try.prog w = .ok (.agg (arrO [255])) w := by kernel_rfl
  unfold execOp
  simp only [ho, List.map_toArray, List.map_cons, List.map_nil, hx, Sem.run_bind, hr, Result.andThen_ok, Sem.run_pure]
theorem run_build_id1 {op : Oper} {a : Act} (x : Operand) (ho : op.op = .build 24 #[(0, x)]) (hx : a.eval x = .int .u8 1) (w : World) : (execOp a.eval op).run Try.prog w = .ok (.value (.agg (arrO [1]))) w := by
  have hr : (Instr.build 24 #[(0, .int .u8 1)]).run Try.prog w = .ok (.agg (arrO [1])) w := by kernel_rfl
  unfold execOp
  simp only [ho, List.map_toArray, List.map_cons, List.map_nil, hx, Sem.run_bind, hr, Result.andThen_ok, Sem.run_pure]
set_option maxHeartbeats 16000000 in
set_option maxRecDepth 100000 in
theorem nodeApart_walk (A0 : Option Addr) (nn nc : Nat) (zs : List NdIn) (w : World) (hz : zs.length = nn) (hn : nn ≤ 9223372036854775807) (h : NodesAt w A0 zs) :
    Calls Try.prog 9 #[.slice A0 nn nc] w fun e w' => e = .returned (.bool true) ∧ Q w w' := by
  obtain ⟨iI, hiI, hzI0, hzI1, hzI2⟩ := info_parts infoI
  obtain ⟨iN, hiN, hzN0, hzN1, hzN2⟩ := info_parts infoR
  obtain ⟨iM, hiM, hzM0, hzM1, hzM2⟩ := info_parts infoN
  have HFW : Hid (Calls Try.prog 16 #[.slice A0 nn nc] w fun e w1 => ∃ A1 c1, e = .returned (.slice A1 (fewL zs).length c1) ∧ Q w w1 ∧
      Calls Try.prog 21 #[.slice A1 (fewL zs).length c1] w1 fun e w2 => ∃ A2 c2, e = .returned (.slice A2 (sortN (fewL zs)).length c2) ∧ Hid (NodesAt w2 A2 (sortN (fewL zs)) ∧ Q w1 w2 ∧ (sortN (fewL zs)).length ≤ c2)) := Lib.hid (sorted_fewC hz hn h)
  have HSE : Hid (∀ (w : World) (A : Option Addr), NodesAt w A (sortN (fewL zs)) → ∃ L, SortedEnc (sortN (fewL zs)) L) := Lib.hid fun w A h => sortedEnc h
  clear hz hn h
  generalize sortN (fewL zs) = ys at *
  generalize (fewL zs).length = mf at *
  obtain ⟨m, hm⟩ : ∃ m, m = ys.length := ⟨_, rfl⟩
  rw [← hm] at HFW
  have HM := Lib.hid hm.symm
  clear hm
  go_enter Try.func9, Try.ntmps9
  go_upto_region 3 with (first
    | (go_at_call 16; go_loud ((with_reducible refine (HFW.out).mono ?_); rintro e1 w1 ⟨A1, c1, rfl, hq1, H1⟩; have HQ1 := Lib.hid hq1; have HSO := Lib.hid H1; clear hq1 H1))
    | (go_at_call 21; go_loud ((with_reducible refine (HSO.out).mono ?_); rintro e2 w2 ⟨A2, c2, rfl, H2⟩; obtain ⟨L, hL⟩ := HSE.out w2 A2 H2.out.1; have HL := Lib.hid hL; have hml : m ≤ 60 := by { have := hL.few; have := HM.out; omega }; have HT := Lib.hid (to_ok A2 m c2 ys w2 HM.out (by omega) H2.out.1 (fun z hz => by have := HL.out.pn z hz; omega)); clear hL))
    | (go_at_call 10; go_loud ((with_reducible refine (HT.out).mono ?_); rintro e3 w3 ⟨v3, outs, rfl, H3⟩; obtain ⟨A3, c3, rfl, HN3⟩ := H3.out.1.nodesAt (fits_same H3.out.2 H2.out.1.fit); have hol : outs.length = m := (Made.len H3.out.2).trans HM.out; rw [hol]; have hop := map_pn H3.out.2 HL.out.pn; have HE3 := Lib.hid (encode_ok A3 m c3 outs w3 hol (by omega) HN3 (fun z hz => by have := hop z hz; omega)); rw [map_n H3.out.2, HL.out.enc] at HE3; clear HN3 hol hop))
    | (go_at_call 18; go_loud ((with_reducible refine (HE3.out).mono ?_); rintro e4 w4 ⟨A4, c4, n4, rfl, H4⟩)))
  have HQ3 : Hid (Q w w3) := Lib.hid (HQ1.out.step (H2.out.2.1.step H3.out.1.q))
  have HN3 : Hid (NodesAt w3 A2 ys) := Lib.hid (H2.out.1.q H3.out.1.q)
  have HC2m : Hid (m ≤ c2) := Lib.hid H2.out.2.2
  have hn4 : L.length = n4 := H4.out.1
  have hcap := own_cap H4.out.2.1
  have hmax := own_max H4.out.2.1
  have hnil := own_nil H4.out.2.1
  have HS4 : Hid (SeesP w4 (· < w4.heap.size) A4 (L.map B8)) := Lib.hid ((sees_own H4.out.2.1).more fun b hb => hb.2)
  have HDA : Hid (Calls Try.prog 25 #[.slice A4 n4 c4] w4 (DecAs 33 w4 (ys.map (·.n)) 0 m)) := Lib.hid (by
    have h1 := decode_ok A4 c4 n4 L (· < w4.heap.size) w4 hn4 HS4.out (fun _ h => h) HL.out.byte (by have := HL.out.len; omega) hcap.1 hmax hnil
    rw [HL.out.dec] at h1
    have h2 := h1.mono fun e w' h => h.as_ (read_of HL.out.byte HL.out.dec)
    rw [List.length_map, HM.out] at h2
    exact h2)
  have hn4p : 0 < n4 := by rw [← hn4]; exact HL.out.pos
  have hn4m : n4 ≤ 20000000 := by rw [← hn4]; exact HL.out.len
  obtain ⟨gb, fb, rfl, hgb, hrb, hnc, hcm⟩ := own_rowIs H4.out.2.1 hn4p
  have HRB := Lib.hid (And.intro hrb hgb)
  have HQ34 := Lib.hid H4.out.2.2.1
  rw [Nat.mul_one] at HRB
  have HNC := Lib.hid hnc
  have HWR := Lib.hid (read_of HL.out.byte HL.out.dec)
  clear hn4 hcap hmax hnil HFW HSE HSO HT HE3 H3 hrb hgb hcm HS4 H4 H2 hnc
  go_upto_region 6 with (first
    | (go_at_call 25; go_loud ((with_reducible refine (HDA.out).mono ?_); rintro e6 w6 ⟨A6, c6, outs6, rfl, H6⟩))
    | (go_at_call 11; go_loud ((with_reducible refine (nodes_ok _).mono ?_); rintro e5 w5 ⟨rfl, hq5⟩; have HQ5 := Lib.hid hq5.out; clear hq5)))
  have HMD : Hid (MadeR w4.heap.size w5 33 (.slice A6 m c6) outs6) := Lib.hid (H6.out.2.2.1.q HQ5.out)
  have HO6 : Hid (outs6.length = m ∧ m ≤ c6) := Lib.hid ⟨H6.out.1, H6.out.2.2.2.2.2⟩
  have HNN : Hid (outs6.map (·.n) = ys.map (·.n)) := Lib.hid H6.out.2.1
  have HQ35 : Hid (Q w3 w5) := Lib.hid (HQ34.out.step (H6.out.2.2.2.2.1.step HQ5.out))
  have HRB5 : Hid (w5.rowIs gb 5 c4 fb) := Lib.hid (row_q (H6.out.2.2.2.2.1.step HQ5.out) HRB.out.1)
  have HGB : Hid (w3.heap.size ≤ gb ∧ gb < w4.heap.size) := Lib.hid ⟨HRB.out.2, HRB.out.1.lt⟩
  have HSZ : Hid (w3.heap.size ≤ w4.heap.size) := Lib.hid HQ34.out.size
  clear HDA HRB H6 HQ5
  go_upto_block 0 with fail
  go_cut [7] (fun _ wx => Hid (Only (fun k => k = gb) w5 wx))
  case first =>
    go_wp2_with fail
    go_loopw [7] (fun i wr => ∃ j : Nat, j ≤ n4 ∧ i = .int .i64 j ∧ Hid (Only (fun k => k = gb) w5 wr ∧ ∃ f, wr.rowIs gb 5 c4 f)) (fun i _ => n4 - (intOf i).toNat)
    case atStart => exact ⟨0, by omega, rfl, Only.refl _ _, fb, HRB5.out⟩
    case round =>
      obtain ⟨j, hj, rfl, HJ⟩ := hrel
      by_cases hjl : j < n4
      · obtain ⟨f, hf⟩ := HJ.out.2
        have HF := Lib.hid hf
        have HJC : Hid (j < c4) := Lib.hid (Nat.lt_of_lt_of_le hjl HNC.out)
        clear hf
        go_wp2_with (first
          | ((with_reducible refine gate0 rfl ?_); go_loud (refine wpList_store_one rfl 5 (.tmp 42) _ rfl gb j rfl (.int .u8 119) rfl infoB rfl rfl 5 c4 _ HF.out HJC.out ?_; intro wa hra hpa; have HA := Lib.hid (And.intro hra hpa); clear hra hpa)))
        go_roundw
        case rel => exact ⟨j + 1, by omega, by go_num, HJ.out.1.put HA.out.2 rfl, _, HA.out.1⟩
        case measure => simp [intOf]; omega
      · obtain rfl : j = n4 := by omega
        go_wp2_with fail
        go_meet
        exact Lib.hid HJ.out.1
  case rest =>
  have HMD2 : Hid (MadeR w4.heap.size wc 33 (.slice A6 m c6) outs6) := Lib.hid (HMD.out.keep hcut.out (fun k hk => by have := HGB.out.2; omega))
  have HON : Hid (Only (fun k => w3.heap.size ≤ k) w3 wc) := Lib.hid ((Only.of_q HQ35.out).trans (hcut.out.mono fun k hk => by rw [hk]; exact HGB.out.1))
  have HAPT : Hid (∀ i j (hi : i < outs6.length) (hj : j < outs6.length), i < j → Far (.slice outs6[i].A outs6[i].pn outs6[i].pc) (.slice outs6[j].A outs6[j].pn outs6[j].pc)) := Lib.hid HMD2.out.apart
  have HPF : Hid (∀ z ∈ outs6, z.pn = z.n.ids.length ∧ Far (.slice z.A z.pn z.pc) (.slice A6 m c6)) := Lib.hid fun z hz => ⟨(HMD2.out.parts z hz).1, (HMD2.out.parts z hz).2.2⟩
  obtain ⟨gm, hgm⟩ : ∃ gm, 0 < m → A6 = some ⟨gm, 0, none⟩ ∧ w4.heap.size ≤ gm ∧ ∃ F, wc.rowIs gm 33 (c6 * 39) F := by
    rcases Nat.eq_zero_or_pos m with h0 | h0
    · exact ⟨0, fun h => absurd h (by omega)⟩
    · have h1 := HMD2.out.own
      rw [HO6.out.1] at h1
      obtain ⟨g, f, h2, h3, h4, _, _⟩ := own_rowIs h1 h0
      exact ⟨g, fun _ => ⟨h2, h3, f, h4⟩⟩
  have HGM := Lib.hid hgm
  have HAP : Hid (ApI w4.heap.size wc gm c6 outs6 0) := Lib.hid ⟨fun j hj _ => by
      obtain ⟨b, o, c, hv, _, hat⟩ := HMD2.out.at_ j hj
      obtain ⟨h1, _⟩ := HGM.out (by have := HO6.out.1; omega)
      rw [h1] at hv
      injection hv with hv _ _
      injection hv with hv
      injection hv with hv1 hv2
      subst hv1 hv2
      rw [Nat.zero_add] at hat
      exact hat, fun hi => by
      obtain ⟨_, _, F, hF⟩ := HGM.out (by have := HO6.out.1; omega)
      exact ⟨hF.lt, F, hF⟩, fun j hj _ => (HMD2.out.parts _ (List.getElem_mem hj)).2.1⟩
  clear hgm hcut HMD HMD2 HRB5
  generalize wc = wd at *
  go_wp2_with fail
  go_loopw [8] (fun i wr => ∃ j : Nat, j ≤ m ∧ i = .int .i64 j ∧ Hid (Only (fun k => w3.heap.size ≤ k) w3 wr ∧ ApI w4.heap.size wr gm c6 outs6 j)) (fun i _ => m - (intOf i).toNat)
  case atStart => exact ⟨0, by omega, rfl, HON.out, HAP.out⟩
  case round =>
    obtain ⟨i, hi, rfl, HJ⟩ := hrel
    obtain ⟨wq, hwq⟩ : ∃ w, w = wr := ⟨_, rfl⟩
    subst hwq
    by_cases hlt : i < m
    · have hi6 : i < outs6.length := by rw [HO6.out.1]; exact hlt
      have hiy : i < ys.length := by rw [HM.out]; exact hlt
      obtain ⟨hA6, hg4, _⟩ := HGM.out (by omega)
      have HNE0 := get_same HNN.out i hi6 hiy
      have HNL0 := (nodesAt_only HN3.out HJ.out.1 (fun k hk => hk)).one i hiy (c := c2) (by rw [HM.out]; exact HC2m.out)
      have HPF0 := HPF.out _ (List.getElem_mem hi6)
      have HN60 := HJ.out.2.one hi6 (by rw [HO6.out.1]; exact HO6.out.2) (HWR.out _ (by rw [← HNN.out]; exact List.mem_map_of_mem (List.getElem_mem hi6))) HPF0.1
      have HZR := HJ.out.2.row i hi6 (Nat.le_refl _)
      have HZO := HJ.out.2.parts i hi6 (Nat.le_refl _)
      have HAF : Hid (∀ j (hj : j < outs6.length), i + 1 ≤ j → ∀ k, (Value.slice outs6[i].A outs6[i].pn outs6[i].pc).ownBlock = some k → (Value.slice outs6[j].A outs6[j].pn outs6[j].pc).ownBlock ≠ some k) := Lib.hid fun j hj hij k hk => HAPT.out i j hi6 hj (by omega) k hk
      have HFM : Hid (∀ j (hj : j < outs6.length), (Value.slice outs6[j].A outs6[j].pn outs6[j].pc).ownBlock ≠ some gm) := Lib.hid fun j hj e => (HPF.out _ (List.getElem_mem hj)).2 gm e (by rw [hA6]; rfl)
      have HFZ := HFM.out i hi6
      have hpm := (HWR.out outs6[i].n (by rw [← HNN.out]; exact List.mem_map_of_mem (List.getElem_mem hi6))).many
      have hpl := HPF0.1
      obtain ⟨z, hz⟩ : ∃ z, z = outs6[i] := ⟨_, rfl⟩
      obtain ⟨y, hy⟩ : ∃ y, y = ys[i] := ⟨_, rfl⟩
      rw [← hz] at HNE0 HN60 HZR HZO HAF HFZ hpm hpl
      rw [← hy] at HNE0 HNL0
      subst hA6
      have HNE := Lib.hid HNE0
      have HNL := Lib.hid HNL0
      have HN6 := Lib.hid HN60
      have HZ0 := Lib.hid HZO
      have HZF := Lib.hid HFZ
      have HPM : Hid (z.pn ≤ 1048576) := Lib.hid (by omega)
      have HC6 : Hid (i + 1 ≤ c6) := Lib.hid (by have := HO6.out.2; omega)
      have HC2 : Hid (i + 1 ≤ c2) := Lib.hid (by have := HC2m.out; omega)
      have HG4 : Hid (w4.heap.size ≤ gm) := Lib.hid hg4
      have HI6 := Lib.hid hi6
      have hiw : IntKind.i64.wrap ((i : Int) + 1) = (i : Int) + 1 := IntWalk.i64_in _ (by omega)
      have him : (i : Int) < m := by omega
      have HZRR := Lib.hid HZR
      clear HNE0 HNL0 HN60 HPF0 HZR HZO HFZ hpm hpl hz hy hi6 hiy hg4
      go_wp2_with fail
      -- REG13
      refine wp_region_factsC (by kernel_rfl) (by kernel_rfl) (factsOf [.is (.slice (some ⟨gm, 0, none⟩) m c6), .is (.int .i64 (i : Nat)), .is (.int .i64 (i : Nat)), .is (.int .i64 ((i + 1 : Nat) : Int)), .is (.slice (cutA (some ⟨gm, 0, none⟩) c6 i 39) 1 (c6 - i)), .that (RowAt 1 [z]) (RowAt.q), .is (.slice A2 m c2), .is (.int .i64 (i : Nat)), .is (.int .i64 (i : Nat)), .is (.int .i64 ((i + 1 : Nat) : Int)), .is (.slice (cutA A2 c2 i 39) 1 (c2 - i)), .is (.bool true), .is (.bool false)]) (factsOf_stays _) ?_ ?_
      · refine ⟨?_, ?_, ?_, ?_, ?_, ?_, ?_, ?_, ?_, ?_, ?_, ?_, ?_, trivial⟩
        · intro ax wx hq hfr hd
          have f5 : ax.tmps.getD 5 undef = .slice (some ⟨gm, 0, none⟩) m c6 := (hfr 5 (by kernel_rfl)).trans rfl
          have e5 := (getD_form _ _).symm.trans f5
          exact .inl ⟨wanted_free rfl, OpDoes.run (v := .slice (some ⟨gm, 0, none⟩) m c6) (w' := wx) (by unfold execOp; simp only [Act.eval, f5, Sem.run_pure]) ⟨Below.refl _ _, rfl⟩⟩
        · intro ax wx hq hfr hd
          have f8 : ax.tmps.getD 8 undef = .int .i64 (i : Nat) := (hfr 8 (by kernel_rfl)).trans rfl
          have e8 := (getD_form _ _).symm.trans f8
          exact .inl ⟨wanted_free rfl, OpDoes.run (v := .int .i64 (i : Nat)) (w' := wx) (by unfold execOp; simp only [Act.eval, f8, Sem.run_pure]) ⟨Below.refl _ _, rfl⟩⟩
        · intro ax wx hq hfr hd
          have f8 : ax.tmps.getD 8 undef = .int .i64 (i : Nat) := (hfr 8 (by kernel_rfl)).trans rfl
          have e8 := (getD_form _ _).symm.trans f8
          exact .inl ⟨wanted_free rfl, OpDoes.run (v := .int .i64 (i : Nat)) (w' := wx) (by unfold execOp; simp only [Act.eval, f8, Sem.run_pure]) ⟨Below.refl _ _, rfl⟩⟩
        · intro ax wx hq hfr hd
          have f51 : ax.tmps.getD 51 undef = .int .i64 (i : Nat) := hd 2 (by kernel_rfl) _ _ rfl rfl
          have e51 := (getD_form _ _).symm.trans f51
          exact .inl ⟨wanted_free rfl, OpDoes.run (v := .int .i64 ((i + 1 : Nat) : Int)) (w' := wx) (by unfold execOp; simp [go_sem, Act.eval, e51, hiw]) ⟨Below.refl _ _, rfl⟩⟩
        · intro ax wx hq hfr hd
          have f49 : ax.tmps.getD 49 undef = .slice (some ⟨gm, 0, none⟩) m c6 := hd 0 (by kernel_rfl) _ _ rfl rfl
          have e49 := (getD_form _ _).symm.trans f49
          have f50 : ax.tmps.getD 50 undef = .int .i64 (i : Nat) := hd 1 (by kernel_rfl) _ _ rfl rfl
          have e50 := (getD_form _ _).symm.trans f50
          have f52 : ax.tmps.getD 52 undef = .int .i64 ((i + 1 : Nat) : Int) := hd 3 (by kernel_rfl) _ _ rfl rfl
          have e52 := (getD_form _ _).symm.trans f52
          exact .inl ⟨wanted_free rfl, OpDoes.run (run_slice_lh_ok (.tmp 49) (.tmp 50) (.tmp 52) rfl Try.underlying27 hiM hzM1 f49 f50 f52 (Nat.le_succ _) HC6.out 1 (Nat.add_sub_cancel_left _ _) wx) ⟨Below.refl _ _, rfl⟩⟩
        · intro ax wx hq hfr hd
          have f53 : ax.tmps.getD 53 undef = .slice (cutA (some ⟨gm, 0, none⟩) c6 i 39) 1 (c6 - i) := hd 4 (by kernel_rfl) _ _ rfl rfl
          have e53 := (getD_form _ _).symm.trans f53
          exact .inl ⟨wanted_free rfl, OpDoes.call (f := 20) (args := #[.slice (cutA (some ⟨gm, 0, none⟩) c6 i 39) 1 (c6 - i)]) (w' := wx) (by unfold execOp; simp [go_sem, Act.eval, e53]) (from_one (HN6.out.q hq))⟩
        · intro ax wx hq hfr hd
          have f0 : ax.tmps.getD 0 undef = .slice A2 m c2 := (hfr 0 (by kernel_rfl)).trans rfl
          have e0 := (getD_form _ _).symm.trans f0
          exact .inl ⟨wanted_free rfl, OpDoes.run (v := .slice A2 m c2) (w' := wx) (by unfold execOp; simp only [Act.eval, f0, Sem.run_pure]) ⟨Below.refl _ _, rfl⟩⟩
        · intro ax wx hq hfr hd
          have f8 : ax.tmps.getD 8 undef = .int .i64 (i : Nat) := (hfr 8 (by kernel_rfl)).trans rfl
          have e8 := (getD_form _ _).symm.trans f8
          exact .inl ⟨wanted_free rfl, OpDoes.run (v := .int .i64 (i : Nat)) (w' := wx) (by unfold execOp; simp only [Act.eval, f8, Sem.run_pure]) ⟨Below.refl _ _, rfl⟩⟩
        · intro ax wx hq hfr hd
          have f8 : ax.tmps.getD 8 undef = .int .i64 (i : Nat) := (hfr 8 (by kernel_rfl)).trans rfl
          have e8 := (getD_form _ _).symm.trans f8
          exact .inl ⟨wanted_free rfl, OpDoes.run (v := .int .i64 (i : Nat)) (w' := wx) (by unfold execOp; simp only [Act.eval, f8, Sem.run_pure]) ⟨Below.refl _ _, rfl⟩⟩
        · intro ax wx hq hfr hd
          have f57 : ax.tmps.getD 57 undef = .int .i64 (i : Nat) := hd 8 (by kernel_rfl) _ _ rfl rfl
          have e57 := (getD_form _ _).symm.trans f57
          exact .inl ⟨wanted_free rfl, OpDoes.run (v := .int .i64 ((i + 1 : Nat) : Int)) (w' := wx) (by unfold execOp; simp [go_sem, Act.eval, e57, hiw]) ⟨Below.refl _ _, rfl⟩⟩
        · intro ax wx hq hfr hd
          have f55 : ax.tmps.getD 55 undef = .slice A2 m c2 := hd 6 (by kernel_rfl) _ _ rfl rfl
          have e55 := (getD_form _ _).symm.trans f55
          have f56 : ax.tmps.getD 56 undef = .int .i64 (i : Nat) := hd 7 (by kernel_rfl) _ _ rfl rfl
          have e56 := (getD_form _ _).symm.trans f56
          have f58 : ax.tmps.getD 58 undef = .int .i64 ((i + 1 : Nat) : Int) := hd 9 (by kernel_rfl) _ _ rfl rfl
          have e58 := (getD_form _ _).symm.trans f58
          exact .inl ⟨wanted_free rfl, OpDoes.run (run_slice_lh_ok (.tmp 55) (.tmp 56) (.tmp 58) rfl Try.underlying29 hiN hzN1 f55 f56 f58 (Nat.le_succ _) HC2.out 1 (Nat.add_sub_cancel_left _ _) wx) ⟨Below.refl _ _, rfl⟩⟩
        · intro ax wx hq hfr hd
          have h54 : (RowAt 1 [z]) (ax.tmps.getD 54 undef) wx := hd 5 (by kernel_rfl) _ _ rfl rfl
          have f59 : ax.tmps.getD 59 undef = .slice (cutA A2 c2 i 39) 1 (c2 - i) := hd 10 (by kernel_rfl) _ _ rfl rfl
          have e59 := (getD_form _ _).symm.trans f59
          exact .inl ⟨wanted_free rfl, OpDoes.call (f := 19) (args := #[ax.tmps.getD 54 undef, .slice (cutA A2 c2 i 39) 1 (c2 - i)]) (w' := wx) (by unfold execOp; simp [go_sem, Act.eval, e59]) (same_row h54 (HNL.out.q hq) HNE.out)⟩
        · intro ax wx hq hfr hd
          have f60 : ax.tmps.getD 60 undef = .bool true := hd 11 (by kernel_rfl) _ _ rfl rfl
          have e60 := (getD_form _ _).symm.trans f60
          exact .inl ⟨wanted_free rfl, OpDoes.run (v := .bool false) (w' := wx) (by unfold execOp; simp [go_sem, Act.eval, e60]) ⟨Below.refl _ _, rfl⟩⟩
      · intro us wx hq hf
        have f61 : us 61 = .bool false := hf 12 _ _ rfl rfl
        have HQX := Lib.hid hq
        clear hf hq
        simp only [fillSlots, List.setIfInBounds_toArray, List.set_cons_succ, List.set_cons_zero, f61]
        clear f61
      -- END13
        have HAPx := Lib.hid (HJ.out.2.q HQX.out)
        have HOx : Hid (Only (fun k => w3.heap.size ≤ k) w3 wx) := Lib.hid (HJ.out.1.step HQX.out)
        obtain ⟨n, A, pn, pc⟩ := z
        obtain ⟨F, hF⟩ := (HAPx.out.own HI6.out).2
        have HRF := Lib.hid hF
        have HZx : Hid (NodeAt wx gm (i * 39) n A pn pc) := Lib.hid (NodeAt.q HZRR.out (HJ.out.2.own HI6.out).1 HQX.out)
        have HP0 : Hid (wx.ownsRow w4.heap.size 24 32 (.slice A pn pc) pn (idsL n.ids)) := Lib.hid (own_q HZ0.out HQX.out)
        have HPF2 : Hid ((Value.slice A pn pc).ownBlock ≠ some gm) := Lib.hid HZF.out
        have HSG : Hid (∀ k, (Value.slice A pn pc).ownBlock = some k → w3.heap.size ≤ k) := Lib.hid fun k hk => Nat.le_trans HSZ.out (own_block HP0.out k hk)
        have HPM2 : Hid (pn ≤ 1048576) := Lib.hid HPM.out
        have HAF2 : Hid (∀ j (hj : j < outs6.length), i + 1 ≤ j → ∀ k, (Value.slice A pn pc).ownBlock = some k → (Value.slice outs6[j].A outs6[j].pn outs6[j].pc).ownBlock ≠ some k) := Lib.hid HAF.out
        have c6x := HZx.out.parts
        have HGML : Hid (gm < wx.heap.size) := Lib.hid (HAPx.out.own HI6.out).1
        clear hF HZRR HZ0 HZF HPM HAF HN6 HNL HNE HJ HQX
        go_wp2_with fail
        go_loopw [9] (fun q wr => ∃ j : Nat, j ≤ pn ∧ q = .int .i64 j ∧ Hid (Only (fun k => (Value.slice A pn pc).ownBlock = some k) wx wr ∧ ∃ xs, wr.ownsRow w4.heap.size 24 32 (.slice A pn pc) pn xs)) (fun q _ => pn - (intOf q).toNat)
        case atStart => exact ⟨0, by omega, rfl, Only.refl _ _, _, HP0.out⟩
        case round =>
          obtain ⟨j, hj, rfl, HK⟩ := hrel
          obtain ⟨wk, hwk⟩ : ∃ w, w = wr := ⟨_, rfl⟩
          subst hwk
          have c6k : wk.cell? ⟨gm, i * 39 + 6, none⟩ = some (.slice A pn pc) := (Only.cell HK.out.1 (p := ⟨gm, i * 39 + 6, none⟩) HGML.out HPF2.out).trans c6x
          by_cases hjl : j < pn
          · obtain ⟨xs, hxs⟩ := HK.out.2
            obtain ⟨gp, f, hAe, hgp, hrp, hpc, hpmx⟩ := own_rowIs hxs (by omega)
            have HRP := Lib.hid hrp
            have HGP := Lib.hid (And.intro hgp (And.intro hpc hpmx))
            have HO1 := Lib.hid HK.out.1
            have hjp : (j : Int) < pn := by omega
            have hpm2 := HPM2.out
            have HJ32 : Hid (j * 32 + 32 ≤ pc * 32) := Lib.hid (by have : (j + 1) * 32 ≤ pc * 32 := Nat.mul_le_mul_right _ (by omega); omega)
            clear hxs hrp hgp hpc hpmx HK
            subst hAe
            go_wp2_with (first
              | ((with_reducible refine gate 78 rfl ?_); go_loud (refine wpList_val rfl (run_build_id255 _ rfl rfl _) ?_))
              | ((with_reducible refine gate0 rfl ?_); go_loud (refine wpList_store_agg rfl 24 (.tmp 79) (.tmp 78) rfl gp (j * 32) rfl _ rfl 32 sizeI _ (arrO_agg [255]) (fun i _ => rfl) 24 (pc * 32) _ HRP.out HJ32.out ?_; intro wa hra hpa; have HA := Lib.hid (And.intro hra hpa); clear hra hpa)))
            go_roundw
            case rel => exact ⟨j + 1, by omega, by go_num, HO1.out.put HA.out.2 rfl, rowIs_own HA.out.1 HGP.out.1 HGP.out.2.1 HGP.out.2.2⟩
            case measure => simp [intOf]; omega
          · obtain rfl : j = pn := by omega
            obtain ⟨xs, hxs⟩ := HK.out.2
            have HXS := Lib.hid hxs
            have HXL : Hid (xs.length = j * 32) := Lib.hid hxs.1
            have HRFk : Hid (wk.rowIs gm 33 (c6 * 39) F) := Lib.hid (HK.out.1.row HRF.out HPF2.out)
            have HAPk : Hid (ApI w4.heap.size wk gm c6 outs6 (i + 1)) := Lib.hid (HAPx.out.next.keep HK.out.1 HPF2.out (fun j' hj' hij k hk hs => HAF2.out j' hj' hij k hs hk))
            have HOk : Hid (Only (fun k => w3.heap.size ≤ k) w3 wk) := Lib.hid (HOx.out.trans (HK.out.1.mono HSG.out))
            have HWk : Hid (w4.heap.size ≤ wk.heap.size) := Lib.hid (by have h1 := HRFk.out.lt; have h2 := HG4.out; omega)
            have HIC : Hid (i * 39 + 6 < c6 * 39) := Lib.hid (by have h1 := HC6.out; have : (i + 1) * 39 ≤ c6 * 39 := Nat.mul_le_mul_right _ h1; omega)
            clear hxs
            go_wp2_with (first
              | ((with_reducible refine gate 87 rfl ?_); go_loud (refine wpList_val rfl (run_build_id1 _ rfl rfl _) ?_))
              | ((with_reducible refine gate 88 rfl ?_); go_loud (refine wpList_val rfl (run_row_id (.tmp 87) rfl [1] rfl _) ?_; have HQb := Lib.hid ((Q.refl wk).alloc (.cells (gL [1]).toArray 24))))
              | ((with_reducible refine gate 89 rfl ?_); go_loud (refine wpList_append_any rfl (.tmp 86) (.tmp 88) 22 rfl w4.heap.size 24 iI _ 32 32 Try.underlying22 hiI hzI0 hzI1 hzI2 rfl (by omega) _ j xs rfl (own_q HXS.out HQb.out) (· = wk.heap.size) (some ⟨wk.heap.size, 0, none⟩) 1 1 (gL [1]) rfl (gL_len _) (sees_new wk (gL [1]) _ _ rfl) (gL_one _) (by have := HPM2.out; unfold maxLen; omega) (by have := HPM2.out; omega) (Nat.le_trans HWk.out HQb.out.size) ?_; intro v9 w9 hown9 hgr9; obtain ⟨A9, c9, rfl⟩ := own_form hown9; have HGR := Lib.hid hgr9; have HO9 : Hid (Only (fun k => (Value.slice A j pc).ownBlock = some k) (wk.alloc (.cells (gL [1]).toArray 24)) w9) := Lib.hid ⟨hgr9.os, hgr9.tape, hgr9.output, hgr9.size, fun k hk hs => hgr9.block k hk hs⟩; have HR9 : Hid (w9.rowIs gm 33 (c6 * 39) F) := Lib.hid (HO9.out.row (row_q HQb.out HRFk.out) HPF2.out); clear hown9 hgr9))
              | ((with_reducible refine gate0 rfl ?_); go_loud (refine wpList_store_one rfl 22 (.tmp 91) (.tmp 89) rfl gm (i * 39 + 6) rfl _ rfl sizeR1 rfl rfl 33 (c6 * 39) _ HR9.out HIC.out ?_; intro wz hrz hpz; have HZ := Lib.hid (And.intro hrz hpz); clear hrz hpz)))
            go_roundw
            case rel =>
              refine ⟨i + 1, by omega, by go_num, ((HOk.out.step HQb.out).trans (HO9.out.mono HSG.out)).put HZ.out.2 (Nat.le_trans HSZ.out HG4.out), ?_⟩
              exact ((HAPk.out.q HQb.out).keep HO9.out HPF2.out (fun j' hj' hij k hk hs => HAF2.out j' hj' hij k hs hk)).put HR9.out (by rw [HO6.out.1]; exact HO6.out.2) HI6.out HZ.out.2 HZ.out.1 (fun j' hj' _ => HFM.out j' hj')
            case measure => simp [intOf]; omega
    · go_wp2_with fail
      go_ret
      exact ⟨rfl, HQ3.out.step (HJ.out.1.q (Q.refl _) (fun k hk => hk))⟩
theorem nodeApart_true (A : Option Addr) (n c : Nat) (zs : List NdIn) (w : World) (h : RowOfR w 39 (NdR w) A n c zs) :
    Calls Try.prog 9 #[.slice A n c] w fun e w' => e = .returned (.bool true) ∧ Below w.heap.size w w' := by
  obtain ⟨h1, h2⟩ := nodes_of_row h
  exact nodeApart_walk A n c _ w h2 (by have := h.le; have := h.max; unfold maxLen at this; omega) h1
end Go.Proofs.Ytffenfhbiapefaa
