/- The walk through Encode. -/
import Derived.Test.YtffenfhbiapefaaEnp
import Derived.Deep.QuietTactic
import Derived.BigQuiet
namespace Go.Proofs.Ytffenfhbiapefaa
set_option linter.unusedVariables false
set_option linter.unusedSimpArgs false
open Go.RowKit

/-- What Encode leaves. -/
def EncOut (w : World) (r : List Nat × Nat) (e_ : Ending) (w' : World) : Prop :=
  ∃ A cp n, e_ = .returned (.tuple #[.slice A n cp, .int .i64 (r.2 : Int)]) ∧ Hid (r.1.length = n ∧ w'.ownsRow w.heap.size 5 1 (.slice A n cp) n (r.1.map B8) ∧ Q w w' ∧ ∀ x ∈ r.1, x ≤ 255)
theorem encOut_err {w w' : World} {k : Nat} (hq : Q w w') : EncOut w ([], k) (.returned (.tuple #[.slice none 0 0, .int .i64 (k : Int)])) w' :=
  ⟨none, 0, 0, rfl, rfl, World.ownsRow_nil _ _ _ _, hq, by simp⟩
theorem encNds_len {zs : List NdIn} (h : ∀ z ∈ zs, GoodNd z.n ∧ (∀ i ∈ z.n.ids, i.length = 32) ∧ z.n.ids.length ≤ 5000 ∧ z.n.tree.length = 32) : (zs.flatMap fun z => encNd z.n).length ≤ 200000 * zs.length := by
  induction zs with
  | nil => simp
  | cons z zs ih =>
    obtain ⟨h1, h2, h3, h4⟩ := h z (by simp)
    have := encNd_len h1 h2 h3 h4
    have := ih fun y hy => h y (List.mem_cons_of_mem _ hy)
    simp only [List.flatMap_cons, List.length_append, List.length_cons]
    omega
theorem encNd_byte {n : Nd} (hi : ∀ i ∈ n.ids, ∀ x ∈ i, x ≤ 255) (ht : ∀ x ∈ n.tree, x ≤ 255) : ∀ x ∈ encNd n, x ≤ 255 := fun x hx => by
  have ht' : ∀ s : ByteArray, ∀ x ∈ textL s, x ≤ 255 := fun s x hx => by
    unfold textL at hx
    rcases List.mem_append.1 hx with hx | hx
    · exact numL_byte _ x hx
    · exact bytesOf_byte s x hx
  have hn : ∀ z : Int, ∀ x ∈ numZ z, x ≤ 255 := fun z x hx => numL_byte _ x hx
  unfold encNd at hx
  rcases List.mem_append.1 hx with hx | hx
  · rcases List.mem_append.1 hx with hx | hx
    · rcases List.mem_append.1 hx with hx | hx
      · rcases List.mem_append.1 hx with hx | hx
        · exact ht' _ x hx
        · exact hn _ x hx
      · exact hn _ x hx
    · exact hn _ x hx
  · split at hx
    · rcases List.mem_append.1 hx with hx | hx
      · rcases List.mem_append.1 hx with hx | hx
        · exact hn _ x hx
        · exact numL_byte _ x hx
      · obtain ⟨i, hi', hxi⟩ := List.mem_flatten.1 hx
        exact hi i hi' x hxi
    · split at hx
      · exact ht x hx
      · exact ht' _ x hx

theorem num_first {wb : World} {base g : Nat} {vb : Value} {L : List Nat} (nn : Nat) (h : OutHas wb base g 0 L vb) (hn : nn < 4611686018427387904 ∧ L.length ≤ 1000) (t : TypeId) :
    Calls Try.prog 33 #[.pointer (some ⟨g, 0, none⟩), .slice (some ⟨wb.heap.size, 0, none⟩) 1 1] (wb.alloc (.cells #[.int .i64 (nn : Int)] t)) fun e_ w' => ∃ v', e_ = .returned (.pointer (some ⟨g, 0, none⟩)) ∧ Hid (OutSt wb vb w' base g 0 (L ++ numL nn) v') := by
  have h := nums_new [(nn : Int)] t (OutSt.refl h) (by have := hn.2; omega) (by simp)
  rw [List.foldl_cons, List.foldl_nil, numStep_in _ (by omega) (by omega)] at h
  exact h
set_option maxHeartbeats 16000000 in
set_option maxRecDepth 100000 in
theorem encode_ok (A0 : Option Addr) (nn nc : Nat) (zs : List NdIn) (w : World) (hz : zs.length = nn) (hn : nn ≤ 9223372036854775807) (h : NodesAt w A0 zs) (hp : ∀ z ∈ zs, z.pn ≤ 5000) :
    Calls Try.prog 18 #[.slice A0 nn nc] w (EncOut w (encN (zs.map (·.n)))) := by
  have HZ := Lib.hid hz
  have HN := Lib.hid h
  have HP := Lib.hid hp
  obtain ⟨ls, hls⟩ : ∃ ls, ls = zs.map (·.n) := ⟨_, rfl⟩
  have hll : ls.length = nn := by rw [hls, List.length_map, hz]
  rw [← hls]
  have HLS := Lib.hid hls
  have HLL := Lib.hid hll
  clear hz h hp hls hll
  by_cases hbig : 2000 < nn
  · have HR : Hid (encN ls = ([], 4)) := Lib.hid (by unfold encN; rw [if_pos (by rw [HLL.out]; exact hbig)])
    go_enter Try.func18, Try.ntmps18
    go_wp2_with fail
    go_ret2
    rw [HR.out]
    exact encOut_err (Q.refl w)
  have HCK : Hid (∀ k (hk : k < nn), ∃ h : k < zs.length, ∃ h' : k < ls.length, ls[k] = zs[k].n) := Lib.hid fun k hk => by
    have h1 : k < zs.length := by rw [HZ.out]; exact hk
    have h2 : k < ls.length := by rw [HLL.out]; exact hk
    refine ⟨h1, h2, ?_⟩
    have := HLS.out
    subst this
    simp
  go_enter Try.func18, Try.ntmps18
  go_wp2_with fail
  go_loopw [15] (fun i wr => ∃ k : Nat, k ≤ nn ∧ i = .int .i64 k ∧ Hid (∀ j (h : j < ls.length), j < k → checkN ls[j] = 0) ∧ Hid (Q w wr)) (fun i _ => nn - (intOf i).toNat)
  case atStart => exact ⟨0, by omega, rfl, Lib.hid (fun j _ h => by omega), Q.refl w⟩
  case round =>
    obtain ⟨k, hk, rfl, HC, HQr⟩ := hrel
    obtain ⟨wq, hwq⟩ : ∃ w, w = wr := ⟨_, rfl⟩
    subst hwq
    by_cases hlt : k < nn
    · obtain ⟨hkz, hkl, hkn⟩ := HCK.out k hlt
      obtain ⟨b, o, e1, hb, hat⟩ := (HN.out.q HQr.out).at_ k hkz
      have hfit := (HN.out.fit zs[k] (List.getElem_mem hkz)).1
      have hck : checkN ls[k] = checkN zs[k].n := by rw [hkn]
      have HKL : Hid (∃ h : k < ls.length, ls[k] = zs[k].n) := Lib.hid ⟨hkl, hkn⟩
      have HC2 : Hid (checkN zs[k].n = 0 → ∀ j (h : j < ls.length), j < k + 1 → checkN ls[j] = 0) := Lib.hid fun h0 j hj hjk => by
        by_cases hjk2 : j < k
        · exact HC.out j hj hjk2
        · obtain rfl : j = k := by omega
          rw [hkn]; exact h0
      have HER : Hid (checkN zs[k].n ≠ 0 → encN ls = ([], checkN zs[k].n)) := Lib.hid fun h0 => by
        have := firstErr_at ls k hkl (fun j hj => HC.out j (by omega) hj) (by rw [hkn]; exact h0)
        rw [hkn] at this
        unfold encN
        rw [if_neg (by rw [HLL.out]; exact hbig), if_pos (by rw [this]; exact h0), this]
      have HCHK := Lib.hid (fun w => check_ok zs[k].n zs[k].A zs[k].pn zs[k].pc w hfit)
      generalize zs[k].n = n at *
      generalize zs[k].A = A at *
      generalize zs[k].pn = pn at *
      generalize zs[k].pc = pc at *
      have HAT := Lib.hid hat
      clear hkz hkl hkn hck hat hfit hb HKL
      subst e1
      obtain ⟨er, her⟩ : ∃ er, er = checkN n := ⟨_, rfl⟩
      rw [← her] at HC2 HER HCHK
      clear her
      by_cases h0 : er = 0
      · have he0 : ((er : Int) != 0) = false := by rw [h0]; rfl
        have HC3 := Lib.hid (HC2.out h0)
        clear h0 HC2 HER
        go_wp2_with (first
          | ((with_reducible refine gate 18 rfl ?_); go_loud (refine wpList_val rfl (load_node (.tmp 17) rfl rfl HAT.out) ?_))
          | ((with_reducible refine gate 5 rfl ?_); go_loud (refine wpList_alloc_row rfl 33 rfl _ (zeroN _) 39 _ (ndC_size _ _ _ _) (ndC_get _ _ _ _) ?_; intro w1 hr1 hx1; have H1 := Lib.hid (And.intro hr1 (hx1.q (Q.refl _))); clear hr1 hx1))
          | ((with_reducible refine gate0 rfl ?_); go_loud (refine wpList_store_all rfl 33 (.tmp 5) (.tmp 18) rfl wq.heap.size rfl _ rfl 39 sizeN _ (nd_agg n A pn pc) (fun i _ => ndF_one _ _ _ _ i) 33 _ H1.out.1 ?_; intro w2 hr2 hp2; have HB := Lib.hid hr2; have HQ2 : Hid (Q wq w2) := Lib.hid (hp2.q H1.out.2 (Nat.le_refl _)); clear hr2 hp2))
          | ((with_reducible refine gate 19 rfl ?_); go_loud (refine wpList_val rfl (load_node (.tmp 5) rfl rfl (NodeAt.of_row HB.out)) ?_))
          | (go_at_call 12; go_loud ((with_reducible refine (HCHK.out _).mono ?_); rintro e3 w3 ⟨rfl, hq3⟩; have HQ3 := Lib.hid hq3; clear hq3)))
        go_roundw
        case rel => exact ⟨k + 1, by omega, by go_num, HC3.out, HQr.out.step (HQ2.out.step HQ3.out)⟩
        case measure => simp [intOf]; omega
      · have he0 : ((er : Int) != 0) = true := bne_iff_ne.2 (by omega)
        have HER2 := Lib.hid (HER.out h0)
        clear h0 HC2 HER
        go_wp2_with (first
          | ((with_reducible refine gate 18 rfl ?_); go_loud (refine wpList_val rfl (load_node (.tmp 17) rfl rfl HAT.out) ?_))
          | ((with_reducible refine gate 5 rfl ?_); go_loud (refine wpList_alloc_row rfl 33 rfl _ (zeroN _) 39 _ (ndC_size _ _ _ _) (ndC_get _ _ _ _) ?_; intro w1 hr1 hx1; have H1 := Lib.hid (And.intro hr1 (hx1.q (Q.refl _))); clear hr1 hx1))
          | ((with_reducible refine gate0 rfl ?_); go_loud (refine wpList_store_all rfl 33 (.tmp 5) (.tmp 18) rfl wq.heap.size rfl _ rfl 39 sizeN _ (nd_agg n A pn pc) (fun i _ => ndF_one _ _ _ _ i) 33 _ H1.out.1 ?_; intro w2 hr2 hp2; have HB := Lib.hid hr2; have HQ2 : Hid (Q wq w2) := Lib.hid (hp2.q H1.out.2 (Nat.le_refl _)); clear hr2 hp2))
          | ((with_reducible refine gate 19 rfl ?_); go_loud (refine wpList_val rfl (load_node (.tmp 5) rfl rfl (NodeAt.of_row HB.out)) ?_))
          | (go_at_call 12; go_loud ((with_reducible refine (HCHK.out _).mono ?_); rintro e3 w3 ⟨rfl, hq3⟩; have HQ3 := Lib.hid hq3; clear hq3)))
        go_ret2
        rw [HER2.out]
        exact encOut_err (HQr.out.step (HQ2.out.step HQ3.out))
    · obtain rfl : nn = k := by omega
      have HGD : Hid (∀ z ∈ zs, GoodNd z.n ∧ (∀ i ∈ z.n.ids, i.length = 32) ∧ z.n.ids.length ≤ 5000 ∧ z.n.tree.length = 32) := Lib.hid fun z hz' => by
        obtain ⟨f1, f2, f3, f4⟩ := HN.out.fit z hz'
        obtain ⟨j, hj, rfl⟩ := List.getElem_of_mem hz'
        obtain ⟨h1, h2, h3⟩ := HCK.out j (by rw [← HZ.out]; exact hj)
        have h4 := HC.out j h2 (by rw [← HZ.out]; exact hj)
        rw [h3] at h4
        exact ⟨good_of h4, fun i hi => (f3 i hi).1, by rw [f1.ids]; exact HP.out _ (List.getElem_mem hj), f1.tree⟩
      have HFE : Hid (firstErr ls = 0) := Lib.hid (firstErr_none ls fun n hn' => by
        obtain ⟨j, hj, rfl⟩ := List.getElem_of_mem hn'
        exact HC.out j hj (by rw [← HLL.out]; exact hj))
      have HBG : Hid (∀ w, Calls Try.prog 32 #[.int .u8 110] w (OutNew w [72, 89, 110])) := Lib.hid fun w => begin_ok 110 (by omega) w
      clear HC
      go_wp2_with (first
        | (go_at_call 32; go_loud ((with_reducible refine (HBG.out _).mono ?_); rintro e4 wb ⟨g, vb, rfl, hOb, hqb⟩; have HOB := Lib.hid hOb; have HQB := Lib.hid hqb; have HNU := Lib.hid (fun t => num_first nn HOB.out ⟨by omega, by decide⟩ t); clear hOb hqb))
        | (go_at_call 33; go_loud ((with_reducible refine (HNU.out _).mono ?_); rintro e5 w5 ⟨v5, rfl, H5⟩)))
      obtain ⟨HD, hHD⟩ : ∃ HD, HD = [72, 89, 110] ++ numL nn := ⟨_, rfl⟩
      rw [← hHD] at H5
      have HHD := Lib.hid hHD
      have HDL : Hid (HD.length ≤ 12) := Lib.hid (by rw [hHD]; have := numL_nine (n := nn) (by omega); simp; omega)
      clear hHD HNU
      go_loopw [32] (fun i wr => ∃ k : Nat, k ≤ nn ∧ i = .int .i64 k ∧ Hid (risesTo ls k = true) ∧ Hid (∃ v, OutSt wb vb wr wq.heap.size g 0 (HD ++ (zs.take k).flatMap fun z => encNd z.n) v)) (fun i _ => nn - (intOf i).toNat)
      case atStart => exact ⟨0, by omega, rfl, rfl, v5, by rw [List.take_zero]; simpa using H5.out⟩
      case round =>
        obtain ⟨k, hk2, rfl, HRI, HOS⟩ := hrel
        obtain ⟨wq2, hwq2⟩ : ∃ w, w = wr := ⟨_, rfl⟩
        subst hwq2
        obtain ⟨v6, hst⟩ := HOS.out
        have HST := Lib.hid hst
        clear hst HOS
        have HQ6 : Hid (Q w wq2) := Lib.hid (HST.out.only.q (HQr.out.step HQB.out) (fun b hb => Nat.le_trans HQr.out.size (HOB.out.ge b hb)))
        by_cases hlt2 : k < nn
        · obtain ⟨hkz, hkl, hkn⟩ := HCK.out k hlt2
          obtain ⟨b, o, e1, hb, hat⟩ := (HN.out.q HQ6.out).at_ k hkz
          obtain ⟨f1, f2, f3, f4⟩ := HN.out.fit zs[k] (List.getElem_mem hkz)
          have hpa := HN.out.parts zs[k] (List.getElem_mem hkz)
          have HGK := Lib.hid (HGD.out zs[k] (List.getElem_mem hkz))
          obtain ⟨L6, hL6⟩ : ∃ L6, L6 = HD ++ (zs.take k).flatMap fun z => encNd z.n := ⟨_, rfl⟩
          have HL6 : Hid (L6.length ≤ 400000012) := Lib.hid (by
            have h1 := encNds_len (zs := zs.take k) (fun z hz' => HGD.out z (List.mem_of_mem_take hz'))
            have h2 : (zs.take k).length ≤ k := List.length_take_le _ _
            have := HDL.out
            rw [hL6, List.length_append]
            omega)
          have HTK : Hid (HD ++ (zs.take (k + 1)).flatMap (fun z => encNd z.n) = L6 ++ encNd zs[k].n) := Lib.hid (by
            rw [List.take_succ_eq_append_getElem hkz, List.flatMap_append, ← List.append_assoc, ← hL6]; simp)
          rw [← hL6] at HST
          have HRS : Hid (risesTo ls (k + 1) = (k == 0 || !leS zs[k].n.name (ls.getD (k - 1) noNd).name)) := Lib.hid (by
            rw [risesTo_succ, HRI.out, Bool.true_and, show ls.getD k noNd = zs[k].n by rw [← hkn]; simp [List.getD, hkl]])
          have HPREV : Hid (∀ w', Q w w' → 0 < k → w'.cell? ⟨b, o + (k - 1) * 39, none⟩ = some (.string (ls.getD (k - 1) noNd).name)) := Lib.hid fun w' hq' h0 => by
            obtain ⟨hjz, hjl, hjn⟩ := HCK.out (k - 1) (by omega)
            obtain ⟨b', o', e1', _, hat'⟩ := (HN.out.q hq').at_ (k - 1) hjz
            rw [e1] at e1'
            injection e1' with e1'; injection e1' with hb' ho'
            subst hb'; subst ho'
            rw [show ls.getD (k - 1) noNd = zs[k - 1].n by rw [← hjn]; simp [List.getD, hjl]]
            exact hat'.name
          have hpl : zs[k].pn ≤ 5000 := HP.out _ (List.getElem_mem hkz)
          have HPA := Lib.hid hpa
          have HFT := Lib.hid (And.intro f1 (And.intro f3 f4))
          clear hL6 f1 f2 f3 f4 hpa HCK hkl hkn
          generalize zs[k].n = n at *
          generalize zs[k].A = A at *
          generalize zs[k].pn = pn at *
          generalize zs[k].pc = pc at *
          have HAT := Lib.hid hat
          clear hat hkz
          subst e1
          have HPUT : Hid (∀ w', Q wq2 w' → Calls Try.prog 34 #[.agg (ndC n A pn pc), .pointer (some ⟨g, 0, none⟩)] w' (fun e_ w'' => ∃ v', e_ = .returned (.tuple #[]) ∧ Hid (OutSt wb vb w'' wq.heap.size g 0 (L6 ++ encNd n) v'))) := Lib.hid fun w' hq' => by
            have h1 := put_ok wq.heap.size g 0 L6 v6 n A pn pc (· < w.heap.size) w' (HST.out.has.q hq') (HPA.out.belowP (fun _ h => h) (HQ6.out.step hq')) (fun k hk => ⟨by have := HQ6.out.size; have := hq'.size; omega, fun hO => by have := HST.out.has.ge k hO; have := HQr.out.size; omega⟩) HFT.out.1 HFT.out.2.1 HFT.out.2.2 (by have := HL6.out; omega) (by omega)
            rw [putStep_in HGK.out.1] at h1
            exact h1.mono fun e_ w'' ⟨v', he, hst⟩ => ⟨v', he, Lib.hid (OutSt.trans (HST.out.q hq') hst.out)⟩
          clear HGK HFT HPA HST
          go_wp2_with (first
            | ((with_reducible refine gate 36 rfl ?_); go_loud (refine wpList_val rfl (load_node (.tmp 35) rfl rfl HAT.out) ?_))
            | ((with_reducible refine gate 9 rfl ?_); go_loud (refine wpList_alloc_row rfl 33 rfl _ (zeroN _) 39 _ (ndC_size _ _ _ _) (ndC_get _ _ _ _) ?_; intro w1 hr1 hx1; have H1 := Lib.hid (And.intro hr1 (hx1.q (Q.refl _))); clear hr1 hx1))
            | ((with_reducible refine gate0 rfl ?_); go_loud (refine wpList_store_all rfl 33 (.tmp 9) (.tmp 36) rfl wq2.heap.size rfl _ rfl 39 sizeN _ (nd_agg n A pn pc) (fun i _ => ndF_one _ _ _ _ i) 33 _ H1.out.1 ?_; intro w2 hr2 hp2; have HB := Lib.hid hr2; have HQ2 : Hid (Q wq2 w2) := Lib.hid (hp2.q H1.out.2 (Nat.le_refl _)); clear hr2 hp2)))
          simp only [Act.put, List.setIfInBounds_toArray, List.set_cons_succ, List.set_cons_zero]
          obtain ⟨lb, hlb⟩ : ∃ lb, lb = leS n.name (ls.getD (k - 1) noNd).name := ⟨_, rfl⟩
          rw [← hlb] at HRS
          have HLB := Lib.hid hlb
          clear hlb
          by_cases hk0 : k = 0
          · have hkd : decide ((0 : Int) < (k : Int)) = false := by rw [hk0]; rfl
            have HNX : Hid (risesTo ls (k + 1) = true) := Lib.hid (by rw [HRS.out, hk0]; rfl)
            clear HLB HPREV HRS
            go_quiet (fail)
            have HQX : Hid (Q w2 (w2.drewN nq)) := Lib.hid ((Q.refl w2).drewN nq)
            generalize w2.drewN nq = wx at *
            have HPT := Lib.hid (HPUT.out _ (HQ2.out.step HQX.out))
            clear HPUT
            go_wp2_with (first
              | ((with_reducible refine gate 50 rfl ?_); go_loud (refine wpList_val rfl (load_node (.tmp 9) rfl rfl (NodeAt.of_row (row_q HQX.out HB.out))) ?_))
              | (go_at_call 34; go_loud ((with_reducible refine (HPT.out).mono ?_); rintro e7 w7 ⟨v7, rfl, H7⟩)))
            go_roundw
            case rel => exact ⟨k + 1, by omega, by go_num, HNX.out, v7, by rw [HTK.out]; exact H7.out⟩
            case measure => simp [intOf]; omega
          · obtain ⟨j, rfl⟩ : ∃ j, k = j + 1 := ⟨k - 1, by omega⟩
            have hj1 : (0 : Int) < (j : Int) + 1 := by omega
            have hj2 : IntKind.i64.wrap (j : Int) = (j : Int) := IntWalk.i64_in _ (by omega)
            have hlb2 : (Op.bytesLess n.name.toList (ls.getD j noNd).name.toList || n.name.toList == (ls.getD j noNd).name.toList) = lb := HLB.out.symm
            have hj3 : (j : Int) < nn := by omega
            have HLT : Hid (b < w2.heap.size) := Lib.hid (Nat.lt_of_lt_of_le hb HQ2.out.size)
            have HNM : Hid (w2.cell? ⟨b, o + j * 39, none⟩ = some (.string (ls.getD j noNd).name)) := Lib.hid (HPREV.out w2 (HQ6.out.step HQ2.out) (by omega))
            generalize ls.getD j noNd = n0 at *
            clear HPREV HLB
            -- REGION
            refine wp_region_factsL (by kernel_rfl) (by kernel_rfl) (factsOf [.is (.int .i64 ((j : Int) + 1)), .is (.bool true), .is (.bool true), .is (.pointer (some ⟨wq2.heap.size, 0, none⟩)), .is (.string n.name), .is (.slice (some ⟨b, o, none⟩) nn nc), .is (.int .i64 ((j : Int) + 1)), .is (.int .i64 (j : Int)), .is (.pointer (some ⟨b, o + j * 39, none⟩)), .is (.pointer (some ⟨b, o + j * 39, none⟩)), .is (.string n0.name), .is (.bool lb), .is (.bool lb)]) (factsOf_stays _) ?_ ?_
            · refine ⟨?_, ?_, ?_, ?_, ?_, ?_, ?_, ?_, ?_, ?_, ?_, ?_, ?_, trivial⟩
              · intro ax wx hq hfr hd
                have f8 : ax.tmps.getD 8 undef = .int .i64 ((j : Int) + 1) := (hfr 8 (by kernel_rfl)).trans rfl
                have e8 := (getD_form _ _).symm.trans f8
                exact .inl ⟨wanted_free rfl, OpDoes.run (v := .int .i64 ((j : Int) + 1)) (w' := wx) (by unfold execOp; simp only [Act.eval, f8, Sem.run_pure]) ⟨Below.refl _ _, rfl⟩⟩
              · intro ax wx hq hfr hd
                have f37 : ax.tmps.getD 37 undef = .int .i64 ((j : Int) + 1) := hd 0 (by kernel_rfl) _ _ rfl rfl
                have e37 := (getD_form _ _).symm.trans f37
                exact .inl ⟨wanted_free rfl, OpDoes.run (v := .bool true) (w' := wx) (by unfold execOp; simp [go_sem, Act.eval, e37, hj1]) ⟨Below.refl _ _, rfl⟩⟩
              · intro ax wx hq hfr hd
                have f38 : ax.tmps.getD 38 undef = .bool true := hd 1 (by kernel_rfl) _ _ rfl rfl
                have e38 := (getD_form _ _).symm.trans f38
                exact .inl ⟨wanted_free rfl, OpDoes.run (v := .bool true) (w' := wx) (by unfold execOp; simp only [Act.eval, f38, Sem.run_pure]) ⟨Below.refl _ _, rfl⟩⟩
              · intro ax wx hq hfr hd
                have f9 : ax.tmps.getD 9 undef = .pointer (some ⟨wq2.heap.size, 0, none⟩) := (hfr 9 (by kernel_rfl)).trans rfl
                have e9 := (getD_form _ _).symm.trans f9
                exact .inl ⟨wanted_on rfl rfl rfl (hd 2 (by kernel_rfl) _ _ rfl rfl), OpDoes.run (v := .pointer (some ⟨wq2.heap.size, 0, none⟩)) (w' := wx) (by unfold execOp; simp [go_sem, Act.eval, e9]) ⟨Below.refl _ _, rfl⟩⟩
              · intro ax wx hq hfr hd
                have f40 : ax.tmps.getD 40 undef = .pointer (some ⟨wq2.heap.size, 0, none⟩) := hd 3 (by kernel_rfl) _ _ rfl rfl
                have e40 := (getD_form _ _).symm.trans f40
                have hc := (NodeAt.of_row (row_q hq HB.out)).name
                exact .inl ⟨wanted_on rfl rfl rfl (hd 2 (by kernel_rfl) _ _ rfl rfl), OpDoes.run (v := .string n.name) (w' := wx) (by unfold execOp; simp [go_sem, Act.eval, e40, hc]) ⟨Below.refl _ _, rfl⟩⟩
              · intro ax wx hq hfr hd
                have f0 : ax.tmps.getD 0 undef = .slice (some ⟨b, o, none⟩) nn nc := (hfr 0 (by kernel_rfl)).trans rfl
                have e0 := (getD_form _ _).symm.trans f0
                exact .inl ⟨wanted_on rfl rfl rfl (hd 2 (by kernel_rfl) _ _ rfl rfl), OpDoes.run (v := .slice (some ⟨b, o, none⟩) nn nc) (w' := wx) (by unfold execOp; simp only [Act.eval, f0, Sem.run_pure]) ⟨Below.refl _ _, rfl⟩⟩
              · intro ax wx hq hfr hd
                have f8 : ax.tmps.getD 8 undef = .int .i64 ((j : Int) + 1) := (hfr 8 (by kernel_rfl)).trans rfl
                have e8 := (getD_form _ _).symm.trans f8
                exact .inl ⟨wanted_on rfl rfl rfl (hd 2 (by kernel_rfl) _ _ rfl rfl), OpDoes.run (v := .int .i64 ((j : Int) + 1)) (w' := wx) (by unfold execOp; simp only [Act.eval, f8, Sem.run_pure]) ⟨Below.refl _ _, rfl⟩⟩
              · intro ax wx hq hfr hd
                have f43 : ax.tmps.getD 43 undef = .int .i64 ((j : Int) + 1) := hd 6 (by kernel_rfl) _ _ rfl rfl
                have e43 := (getD_form _ _).symm.trans f43
                exact .inl ⟨wanted_on rfl rfl rfl (hd 2 (by kernel_rfl) _ _ rfl rfl), OpDoes.run (v := .int .i64 (j : Int)) (w' := wx) (by unfold execOp; simp [go_sem, Act.eval, e43, hj2]) ⟨Below.refl _ _, rfl⟩⟩
              · intro ax wx hq hfr hd
                have f42 : ax.tmps.getD 42 undef = .slice (some ⟨b, o, none⟩) nn nc := hd 5 (by kernel_rfl) _ _ rfl rfl
                have e42 := (getD_form _ _).symm.trans f42
                have f44 : ax.tmps.getD 44 undef = .int .i64 (j : Int) := hd 7 (by kernel_rfl) _ _ rfl rfl
                have e44 := (getD_form _ _).symm.trans f44
                exact .inl ⟨wanted_on rfl rfl rfl (hd 2 (by kernel_rfl) _ _ rfl rfl), OpDoes.run (v := .pointer (some ⟨b, o + j * 39, none⟩)) (w' := wx) (by unfold execOp; simp [go_sem, Act.eval, e42, e44, add_addr, hj3]) ⟨Below.refl _ _, rfl⟩⟩
              · intro ax wx hq hfr hd
                have f45 : ax.tmps.getD 45 undef = .pointer (some ⟨b, o + j * 39, none⟩) := hd 8 (by kernel_rfl) _ _ rfl rfl
                have e45 := (getD_form _ _).symm.trans f45
                exact .inl ⟨wanted_on rfl rfl rfl (hd 2 (by kernel_rfl) _ _ rfl rfl), OpDoes.run (v := .pointer (some ⟨b, o + j * 39, none⟩)) (w' := wx) (by unfold execOp; simp [go_sem, Act.eval, e45, add_addr]) ⟨Below.refl _ _, rfl⟩⟩
              · intro ax wx hq hfr hd
                have f46 : ax.tmps.getD 46 undef = .pointer (some ⟨b, o + j * 39, none⟩) := hd 9 (by kernel_rfl) _ _ rfl rfl
                have e46 := (getD_form _ _).symm.trans f46
                have hc := (hq.cell (p := ⟨b, o + j * 39, none⟩) HLT.out).trans HNM.out
                exact .inl ⟨wanted_on rfl rfl rfl (hd 2 (by kernel_rfl) _ _ rfl rfl), OpDoes.run (v := .string n0.name) (w' := wx) (by unfold execOp; simp [go_sem, Act.eval, e46, hc]) ⟨Below.refl _ _, rfl⟩⟩
              · intro ax wx hq hfr hd
                have f41 : ax.tmps.getD 41 undef = .string n.name := hd 4 (by kernel_rfl) _ _ rfl rfl
                have e41 := (getD_form _ _).symm.trans f41
                have f47 : ax.tmps.getD 47 undef = .string n0.name := hd 10 (by kernel_rfl) _ _ rfl rfl
                have e47 := (getD_form _ _).symm.trans f47
                exact .inl ⟨wanted_on rfl rfl rfl (hd 2 (by kernel_rfl) _ _ rfl rfl), OpDoes.run (v := .bool lb) (w' := wx) (by unfold execOp; simp [go_sem, Act.eval, e41, e47, hlb2]) ⟨Below.refl _ _, rfl⟩⟩
              · intro ax wx hq hfr hd
                have f39 : ax.tmps.getD 39 undef = .bool true := hd 2 (by kernel_rfl) _ _ rfl rfl
                have e39 := (getD_form _ _).symm.trans f39
                have f48 : ax.tmps.getD 48 undef = .bool lb := hd 11 (by kernel_rfl) _ _ rfl rfl
                have e48 := (getD_form _ _).symm.trans f48
                exact .inl ⟨wanted_free rfl, OpDoes.run (v := .bool lb) (w' := wx) (by unfold execOp; simp [go_sem, Act.eval, e39, e48]) ⟨Below.refl _ _, rfl⟩⟩
            · intro us wx hq hf
              have f49 : us 49 = .bool lb := hf 12 _ _ rfl rfl
              have HQX := Lib.hid hq
              clear hf hq
              simp only [fillSlots, List.setIfInBounds_toArray, List.set_cons_succ, List.set_cons_zero, f49]
              clear f49
            -- DNE
              cases lb
              · have HNX : Hid (risesTo ls (j + 1 + 1) = true) := Lib.hid (by rw [HRS.out]; simp)
                have HPT := Lib.hid (HPUT.out _ (HQ2.out.step HQX.out))
                clear HPUT
                go_wp2_with (first
                  | ((with_reducible refine gate 50 rfl ?_); go_loud (refine wpList_val rfl (load_node (.tmp 9) rfl rfl (NodeAt.of_row (row_q HQX.out HB.out))) ?_))
                  | (go_at_call 34; go_loud ((with_reducible refine (HPT.out).mono ?_); rintro e7 w7 ⟨v7, rfl, H7⟩)))
                go_roundw
                case rel => exact ⟨j + 1 + 1, by omega, by go_num, HNX.out, v7, by rw [HTK.out]; exact H7.out⟩
                case measure => simp [intOf]; omega
              · have HNX : Hid (encN ls = ([], 2)) := Lib.hid (by
                  have h1 : risesTo ls ls.length = false := by
                    cases h : risesTo ls ls.length
                    · rfl
                    · have := risesTo_le h (k := j + 1 + 1) (by have := HLL.out; omega)
                      rw [HRS.out] at this; simp at this
                  unfold encN
                  rw [if_neg (by rw [HLL.out]; exact hbig), if_neg (by rw [HFE.out]; simp), if_neg (by rw [h1]; simp)])
                go_wp2_with fail
                go_ret2
                rw [HNX.out]
                exact encOut_err (HQ6.out.step (HQ2.out.step HQX.out))
        · obtain rfl : nn = k := by omega
          obtain ⟨L6, hL6⟩ : ∃ L6, L6 = HD ++ (zs.take nn).flatMap fun z => encNd z.n := ⟨_, rfl⟩
          rw [← hL6] at HST
          have HL6 : Hid (L6.length ≤ 400000012) := Lib.hid (by
            have h1 := encNds_len (zs := zs.take nn) (fun z hz' => HGD.out z (List.mem_of_mem_take hz'))
            have h2 : (zs.take nn).length ≤ nn := List.length_take_le _ _
            have := HDL.out
            rw [hL6, List.length_append]
            omega)
          have HNX : Hid (encN ls = (L6, 0)) := Lib.hid (by
            unfold encN
            rw [if_neg (by rw [HLL.out]; exact hbig), if_neg (by rw [HFE.out]; simp), if_pos (by rw [HLL.out]; exact HRI.out), hL6, HHD.out, List.take_of_length_le (by rw [HZ.out]; exact Nat.le_refl _), HLL.out, HLS.out, List.flatMap_map])
          have HBY : Hid (Calls Try.prog 35 #[.pointer (some ⟨g, 0, none⟩)] wq2 fun e_ w' => ∃ A n c, e_ = .returned (.tuple #[.slice A n c, .int .i64 0]) ∧ Hid (L6.length = n ∧ w'.ownsRow w.heap.size 5 1 (.slice A n c) n (L6.map B8) ∧ Q w w' ∧ ∀ x ∈ L6, x ≤ 255)) := Lib.hid (by
            refine (bytes_ok wq.heap.size g 0 L6 v6 wq2 HST.out.has (by have := HL6.out; omega)).mono fun e_ w' ⟨v', h1, h2, h3⟩ => ?_
            simp only [if_true, ↓reduceIte] at h2
            obtain ⟨A, c, rfl⟩ := own_form h2
            exact ⟨A, _, c, h1, Lib.hid ⟨rfl, own_mono h2 HQ6.out.size, HQ6.out.step h3, HST.out.has.byte⟩⟩)
          clear hL6 HHD
          go_wp2_with (go_at_call 35; go_loud ((with_reducible refine (HBY.out).mono ?_); rintro e7 w7 ⟨A7, n7, c7, rfl, H7⟩))
          go_ret2
          rw [HNX.out]
          exact ⟨A7, c7, n7, rfl, H7⟩
end Go.Proofs.Ytffenfhbiapefaa
