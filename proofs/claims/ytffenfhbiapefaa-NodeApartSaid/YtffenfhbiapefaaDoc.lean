/- The walk through DocEncode. -/
import Derived.Test.YtffenfhbiapefaaEnc
import Derived.Test.YtffenfhbiapefaaNrc
import Derived.Test.YtffenfhbiapefaaGlyR
import Derived.Test.YtffenfhbiapefaaApd
import Derived.Test.YtffenfhbiapefaaNsm
namespace Go.Proofs.Ytffenfhbiapefaa
set_option linter.unusedVariables false
set_option linter.unusedSimpArgs false
open Go.RowKit

/-- A row of bytes that was put together since world w. -/
structure ByR (w wr : World) (v : Value) (L : List Nat) : Prop where
  own : wr.ownsRow w.heap.size 5 1 v L.length (L.map B8)
  q : Q w wr
theorem ByR.begin_ (w : World) : ByR w w (.slice none 0 0) [] := ⟨World.ownsRow_nil _ _ _ _, Q.refl w⟩
theorem ByR.step {w wr w' : World} {v : Value} {L : List Nat} (h : ByR w wr v L) (hq : Q wr w') : ByR w w' v L := ⟨own_q h.own hq, h.q.step hq⟩
theorem ByR.push {w wr w' : World} {v v' : Value} {L M : List Nat} (h : ByR w wr v L) {m : Nat} (hm : M.length = m) (ho : w'.ownsRow w.heap.size 5 1 v' (L.length + m) (L.map B8 ++ M.map B8)) (hg : Grew wr w' v v') : ByR w w' v' (L ++ M) :=
  ⟨by rw [List.length_append, List.map_append, hm]; exact ho, hg.q h.q h.own⟩
theorem ByR.pushS {w wr w' : World} {v v' : Value} {L M : List Nat} (h : ByR w wr v L) (hM : ∀ x ∈ M, x ≤ 255) (ho : w'.ownsRow w.heap.size 5 1 v' (L.length + (strB M).size) (L.map B8 ++ (bytesOf (strB M)).map B8)) (hg : Grew wr w' v v') : ByR w w' v' (L ++ M) := by
  rw [bytesOf_strB hM] at ho
  exact h.push (by rw [← bytesOf_len, bytesOf_strB hM]) ho hg
theorem ByR.str {w wr : World} {v : Value} {L : List Nat} (h : ByR w wr v L) : (convert 40 9 v).run Try.prog wr = .ok (.string (strB L)) wr := by
  obtain ⟨A, c, rfl⟩ := own_form h.own
  exact run_convert_sees (P := Try.prog) wr 40 9 5 Try.underlying40 Try.underlying5 Try.underlying9 _ A _ c L rfl (sees_own h.own)
/-- .. next to a node in a box. -/
structure ByN (w wr : World) (v : Value) (L : List Nat) (g : Nat) (n : Nd) (A : Option Addr) (pn pc : Nat) : Prop where
  by_ : ByR w wr v L
  at_ : NodeAt wr g 0 n A pn pc
  lt : g < wr.heap.size
  far : v.ownBlock ≠ some g
theorem ByN.step {w wr w' : World} {v : Value} {L : List Nat} {g : Nat} {n : Nd} {A : Option Addr} {pn pc : Nat} (h : ByN w wr v L g n A pn pc) (hq : Q wr w') : ByN w w' v L g n A pn pc :=
  ⟨h.by_.step hq, fun i hi => (hq.cell (p := ⟨g, 0 + i, none⟩) h.lt).trans (h.at_ i hi), Nat.lt_of_lt_of_le h.lt hq.size, h.far⟩
theorem ByN.grow {w wr w' : World} {v v' : Value} {L L' : List Nat} {g : Nat} {n : Nd} {A : Option Addr} {pn pc : Nat} (h : ByN w wr v L g n A pn pc) (h' : ByR w w' v' L') (hg : Grew wr w' v v') : ByN w w' v' L' g n A pn pc :=
  ⟨h', fun i hi => (hg.cell (p := ⟨g, 0 + i, none⟩) h.lt h.far).trans (h.at_ i hi), Nat.lt_of_lt_of_le h.lt hg.size, by
    rcases hg.own with e | ⟨b, e, hb⟩
    · rw [e]; exact h.far
    · rw [e]; intro h2; injection h2 with h2; have := h.lt; omega⟩
theorem sees_id {w : World} {b o : Nat} {L : List Nat} (hl : L.length = 32) (h : ∀ i, i < 32 → w.cell? ⟨b, o + i, none⟩ = some (arrF L i)) : SeesP w (fun _ => True) (some ⟨b, o, none⟩) (L.map B8) := fun _ => by
  refine ⟨b, o, rfl, trivial, fun j u hu => ?_⟩
  have hj : j < 32 := by have := (List.getElem?_eq_some_iff.1 hu).1; rw [List.length_map] at this; omega
  rw [h j hj]
  rw [List.getElem?_map, Option.map_eq_some_iff] at hu
  obtain ⟨x, hx, rfl⟩ := hu
  unfold arrF
  rw [List.getD_eq_getElem?_getD, hx]; rfl
theorem one_B8 (L : List Nat) : ∀ u ∈ L.map B8, u.oneCell' = true := fun u hu => by
  obtain ⟨x, _, rfl⟩ := List.mem_map.1 hu; rfl
/-- What DocEncode leaves. -/
def DocOut (w : World) (r : List Nat × Nat) (e_ : Ending) (w' : World) : Prop := e_ = .returned (.tuple #[.string (strB r.1), .int .i64 (r.2 : Int)]) ∧ Hid (Q w w')
set_option maxHeartbeats 16000000 in
set_option maxRecDepth 100000 in
theorem docEncode_ok (A0 : Option Addr) (nn nc : Nat) (zs : List NdIn) (w : World) (hz : zs.length = nn) (hn : nn ≤ 9223372036854775807) (h : NodesAt w A0 zs) (hp : ∀ z ∈ zs, z.pn ≤ 5000) :
    Calls Try.prog 17 #[.slice A0 nn nc] w (DocOut w (encN (zs.map (·.n)))) := by
  obtain ⟨i8, hi8, hz80, hz81, hz82⟩ := info_parts info8
  have HZ := Lib.hid hz
  have HN := Lib.hid h
  have HP := Lib.hid hp
  obtain ⟨ls, hls⟩ : ∃ ls, ls = zs.map (·.n) := ⟨_, rfl⟩
  have hll : ls.length = nn := by rw [hls, List.length_map, hz]
  rw [← hls]
  have HLS := Lib.hid hls
  have HLL := Lib.hid hll
  clear hz h hp hls hll
  by_cases hbig : 2000 < nn
  · have HR : Hid (encN ls = ([], 4)) := Lib.hid (by unfold encN; rw [if_pos (by rw [HLL.out]; exact hbig)])
    go_enter Try.func17, Try.ntmps17
    go_wp2_with fail
    go_ret2
    rw [HR.out]
    exact ⟨rfl, Q.refl w⟩
  have HCK : Hid (∀ k (hk : k < nn), ∃ h : k < zs.length, ∃ h' : k < ls.length, ls[k] = zs[k].n) := Lib.hid fun k hk => by
    have h1 : k < zs.length := by rw [HZ.out]; exact hk
    have h2 : k < ls.length := by rw [HLL.out]; exact hk
    refine ⟨h1, h2, ?_⟩
    have := HLS.out
    subst this
    simp
  go_enter Try.func17, Try.ntmps17
  go_wp2_with fail
  go_loopw [4] (fun i wr => ∃ k : Nat, k ≤ nn ∧ i = .int .i64 k ∧ Hid (∀ j (h : j < ls.length), j < k → checkN ls[j] = 0) ∧ Hid (Q w wr)) (fun i _ => nn - (intOf i).toNat)
  case atStart => exact ⟨0, by omega, rfl, Lib.hid (fun j _ h => by omega), Q.refl w⟩
  case round =>
    obtain ⟨k, hk, rfl, HC, HQr⟩ := hrel
    obtain ⟨wq, hwq⟩ : ∃ w, w = wr := ⟨_, rfl⟩
    subst hwq
    by_cases hlt : k < nn
    · obtain ⟨hkz, hkl, hkn⟩ := HCK.out k hlt
      obtain ⟨b, o, e1, hb, hat⟩ := (HN.out.q HQr.out).at_ k hkz
      have hfit := (HN.out.fit zs[k] (List.getElem_mem hkz)).1
      have HC2 : Hid (checkN zs[k].n = 0 → ∀ j (h : j < ls.length), j < k + 1 → checkN ls[j] = 0) := Lib.hid fun h0 j hj hjk => by
        by_cases hjk2 : j < k
        · exact HC.out j hj hjk2
        · obtain rfl : j = k := by omega
          rw [hkn]; exact h0
      have HER : Hid (checkN zs[k].n ≠ 0 → encN ls = ([], checkN zs[k].n)) := Lib.hid fun h0 => by
        have := firstErr_at ls k hkl (fun j hj => HC.out j (by omega) hj) (by rw [hkn]; exact h0)
        rw [hkn] at this
        unfold encN
        rw [if_neg (by rw [HLL.out]; exact hbig), if_pos (by rw [this]; exact h0), this]
      have HCHK := Lib.hid (fun w => refCheck_ok zs[k].n zs[k].A zs[k].pn zs[k].pc w hfit)
      generalize zs[k].n = n at *
      generalize zs[k].A = A at *
      generalize zs[k].pn = pn at *
      generalize zs[k].pc = pc at *
      have HAT := Lib.hid hat
      clear hkz hkl hkn hat hfit hb
      subst e1
      obtain ⟨er, her⟩ : ∃ er, er = checkN n := ⟨_, rfl⟩
      rw [← her] at HC2 HER HCHK
      clear her
      by_cases h0 : er = 0
      · have he0 : ((er : Int) != 0) = false := by rw [h0]; rfl
        have HC3 := Lib.hid (HC2.out h0)
        clear h0 HC2 HER
        go_wp2_with (first
          | ((with_reducible refine gate 22 rfl ?_); go_loud (refine wpList_val rfl (load_rnode (.tmp 21) rfl rfl HAT.out) ?_))
          | (go_at_call 13; go_loud ((with_reducible refine (HCHK.out _).mono ?_); rintro e3 w3 ⟨rfl, hq3⟩; have HQ3 := Lib.hid hq3; clear hq3)))
        go_roundw
        case rel => exact ⟨k + 1, by omega, by go_num, HC3.out, HQr.out.step HQ3.out⟩
        case measure => simp [intOf]; omega
      · have he0 : ((er : Int) != 0) = true := bne_iff_ne.2 (by omega)
        have HER2 := Lib.hid (HER.out h0)
        clear h0 HC2 HER
        go_wp2_with (first
          | ((with_reducible refine gate 22 rfl ?_); go_loud (refine wpList_val rfl (load_rnode (.tmp 21) rfl rfl HAT.out) ?_))
          | (go_at_call 13; go_loud ((with_reducible refine (HCHK.out _).mono ?_); rintro e3 w3 ⟨rfl, hq3⟩; have HQ3 := Lib.hid hq3; clear hq3)))
        go_ret2
        rw [HER2.out]
        exact ⟨rfl, HQr.out.step HQ3.out⟩
    · obtain rfl : nn = k := by omega
      have HGD : Hid (∀ z ∈ zs, GoodNd z.n ∧ (∀ i ∈ z.n.ids, i.length = 32) ∧ z.n.ids.length ≤ 5000 ∧ z.n.tree.length = 32) := Lib.hid fun z hz' => by
        obtain ⟨f1, f2, f3, f4⟩ := HN.out.fit z hz'
        obtain ⟨j, hj, rfl⟩ := List.getElem_of_mem hz'
        obtain ⟨h1, h2, h3⟩ := HCK.out j (by rw [← HZ.out]; exact hj)
        have h4 := HC.out j h2 (by rw [← HZ.out]; exact hj)
        rw [h3] at h4
        exact ⟨good_of h4, fun i hi => (f3 i hi).1, by rw [f1.ids]; exact HP.out _ (List.getElem_mem hj), f1.tree⟩
      have HFE : Hid (firstErr ls = 0) := Lib.hid (firstErr_none ls fun n hn' => by
        obtain ⟨j, hj, rfl⟩ := List.getElem_of_mem hn'
        exact HC.out j hj (by rw [← HLL.out]; exact hj))
      clear HC
      have HBG : Hid (∀ w, Calls Try.prog 29 #[.int .u8 110] w (GivesStr w [72, 89, 110])) := Lib.hid (fun w => rbegin_ok 110 (by omega) w)
      have HNM := Lib.hid (fun w => rnum_ok nn (by omega) w)
      have hadd := run_add_strB (P := Try.prog) [72, 89, 110] (numL nn) (by have := numL_nine (n := nn) (by omega); simp; omega)
      obtain ⟨HD, hHD⟩ : ∃ HD, HD = [72, 89, 110] ++ numL nn := ⟨_, rfl⟩
      rw [← hHD] at hadd
      have HHD := Lib.hid hHD
      have HDL : Hid (HD.length ≤ 12) := Lib.hid (by rw [hHD]; have := numL_nine (n := nn) (by omega); simp; omega)
      have HDB : Hid (∀ x ∈ HD, x ≤ 255) := Lib.hid (by
        rw [hHD]; intro x hx
        rcases List.mem_append.1 hx with hx | hx
        · simp at hx; omega
        · exact numL_byte _ x hx)
      have HDS : Hid ((strB HD).size ≤ 12) := Lib.hid (by rw [← bytesOf_len, bytesOf_strB HDB.out]; exact HDL.out)
      clear hHD
      go_wp2_with (first
        | (go_at_call 29; go_loud ((with_reducible refine (HBG.out _).mono ?_); rintro e4 w4 ⟨rfl, hq4⟩; have HQ4 := Lib.hid hq4; clear hq4))
        | (go_at_call 30; go_loud ((with_reducible refine (HNM.out _).mono ?_); rintro e5 w5 ⟨rfl, hq5⟩; have HR5 := Lib.hid ((ByR.begin_ w5).own); have HQ5 := Lib.hid (HQr.out.step (HQ4.out.step hq5)); clear hq5))
        | ((with_reducible refine gate 33 rfl ?_); go_loud (refine wpList_append_str rfl (.tmp 27) (.tmp 32) 40 9 rfl w.heap.size 5 i8 Try.underlying40 Try.underlying9 hi8 hz80 hz81 hz82 _ 0 [] rfl (World.ownsRow_nil _ _ _ _) (strB HD) rfl (by have := HDS.out; unfold maxLen; omega) (by have := HDS.out; omega) HQ5.out.size ?_; intro v2 w6 hown6 hgr6; have HR6 := Lib.hid ((ByR.step (ByR.begin_ w) HQ5.out).pushS HDB.out hown6 hgr6); clear hown6 hgr6)))
      go_loopw [6, 7] (fun v i wr => ∃ k : Nat, k ≤ nn ∧ i = .int .i64 k ∧ Hid (risesTo ls k = true) ∧ Hid (ByR w wr v (HD ++ (zs.take k).flatMap fun z => encNd z.n))) (fun _ i _ => nn - (intOf i).toNat)
      case atStart => exact ⟨0, by omega, rfl, rfl, by rw [List.take_zero]; exact Lib.hid (by simpa using HR6.out)⟩
      case round =>
        obtain ⟨k, hk2, rfl, HRI, HOS⟩ := hrel
        obtain ⟨wq2, hwq2⟩ : ∃ w, w = wr := ⟨_, rfl⟩
        subst hwq2
        by_cases hlt2 : k < nn
        · obtain ⟨hkz, hkl, hkn⟩ := HCK.out k hlt2
          obtain ⟨b, o, e1, hb, hat⟩ := (HN.out.q HOS.out.q).at_ k hkz
          obtain ⟨f1, f2, f3, f4⟩ := HN.out.fit zs[k] (List.getElem_mem hkz)
          have hpa := HN.out.parts zs[k] (List.getElem_mem hkz)
          have HGK := Lib.hid (HGD.out zs[k] (List.getElem_mem hkz))
          obtain ⟨L6, hL6⟩ : ∃ L6, L6 = HD ++ (zs.take k).flatMap fun z => encNd z.n := ⟨_, rfl⟩
          have HL6 : Hid (L6.length ≤ 400000012) := Lib.hid (by
            have h1 := encNds_len (zs := zs.take k) (fun z hz' => HGD.out z (List.mem_of_mem_take hz'))
            have h2 : (zs.take k).length ≤ k := List.length_take_le _ _
            have := HDL.out
            rw [hL6, List.length_append]
            omega)
          have HTK : Hid (HD ++ (zs.take (k + 1)).flatMap (fun z => encNd z.n) = L6 ++ encNd zs[k].n) := Lib.hid (by
            rw [List.take_succ_eq_append_getElem hkz, List.flatMap_append, ← List.append_assoc, ← hL6]; simp)
          rw [← hL6] at HOS
          have HRS : Hid (risesTo ls (k + 1) = (k == 0 || !leS zs[k].n.name (ls.getD (k - 1) noNd).name)) := Lib.hid (by
            rw [risesTo_succ, HRI.out, Bool.true_and, show ls.getD k noNd = zs[k].n by rw [← hkn]; simp [List.getD, hkl]])
          have HPREV : Hid (∀ w', Q w w' → 0 < k → w'.cell? ⟨b, o + (k - 1) * 39, none⟩ = some (.string (ls.getD (k - 1) noNd).name)) := Lib.hid fun w' hq' h0 => by
            obtain ⟨hjz, hjl, hjn⟩ := HCK.out (k - 1) (by omega)
            obtain ⟨b', o', e1', _, hat'⟩ := (HN.out.q hq').at_ (k - 1) hjz
            rw [e1] at e1'
            injection e1' with e1'; injection e1' with hb' ho'
            subst hb'; subst ho'
            rw [show ls.getD (k - 1) noNd = zs[k - 1].n by rw [← hjn]; simp [List.getD, hjl]]
            exact hat'.name
          have hpl : zs[k].pn ≤ 5000 := HP.out _ (List.getElem_mem hkz)
          have HPA := Lib.hid hpa
          have HFT := Lib.hid (And.intro f1 (And.intro f3 f4))
          clear hL6 f1 f2 f3 f4 hpa hkl hkn
          generalize zs[k].n = n at *
          generalize zs[k].A = A at *
          generalize zs[k].pn = pn at *
          generalize zs[k].pc = pc at *
          have HAT := Lib.hid hat
          clear hat hkz
          subst e1
          have HSTOP : Hid (risesTo ls (k + 1) = false → encN ls = ([], 2)) := Lib.hid fun h0 => by
            have h1 : risesTo ls ls.length = false := by
              cases h : risesTo ls ls.length
              · rfl
              · have := risesTo_le h (k := k + 1) (by have := HLL.out; omega)
                rw [h0] at this; cases this
            unfold encN
            rw [if_neg (by rw [HLL.out]; exact hbig), if_neg (by rw [HFE.out]; simp), if_neg (by rw [h1]; simp)]
          go_wp2_with (first
            | ((with_reducible refine gate 43 rfl ?_); go_loud (refine wpList_val rfl (load_rnode (.tmp 42) rfl rfl HAT.out) ?_))
            | ((with_reducible refine gate 8 rfl ?_); go_loud (refine wpList_alloc_row rfl 26 rfl _ (zeroRN _) 39 _ (ndC_size _ _ _ _) (ndC_get _ _ _ _) ?_; intro w1 hr1 hx1; have H1 := Lib.hid (And.intro hr1 (hx1.q (Q.refl _))); clear hr1 hx1))
            | ((with_reducible refine gate0 rfl ?_); go_loud (refine wpList_store_all rfl 26 (.tmp 8) (.tmp 43) rfl wq2.heap.size rfl _ rfl 39 sizeR _ (nd_agg n A pn pc) (fun i _ => ndF_one _ _ _ _ i) 26 _ H1.out.1 ?_; intro w2 hr2 hp2; have HB := Lib.hid hr2; have HQ2 : Hid (Q wq2 w2) := Lib.hid (hp2.q H1.out.2 (Nat.le_refl _)); clear hr2 hp2)))
          simp only [Act.put, List.setIfInBounds_toArray, List.set_cons_succ, List.set_cons_zero]
          obtain ⟨lb, hlb⟩ : ∃ lb, lb = (k != 0 && leS n.name (ls.getD (k - 1) noNd).name) := ⟨_, rfl⟩
          have HRS2 : Hid (risesTo ls (k + 1) = !lb) := Lib.hid (by rw [HRS.out, hlb]; cases k <;> simp)
          clear HRS
          go_cut [56] (fun u wx => u = .bool lb ∧ Hid (Q w2 wx))
          case first =>
            by_cases hk0 : k = 0
            · have hkd : decide ((0 : Int) < (k : Int)) = false := by rw [hk0]; rfl
              have hlf : lb = false := by rw [hlb, hk0]; rfl
              clear hlb
              subst hlf
              clear HPREV HRS2 HSTOP
              go_quiet (fail)
              go_wp2_with fail
              go_meet
              exact ⟨rfl, (Q.refl w2).drewN nq⟩
            · obtain ⟨j, rfl⟩ : ∃ j, k = j + 1 := ⟨k - 1, by omega⟩
              have hj1 : (0 : Int) < (j : Int) + 1 := by omega
              have hj2 : IntKind.i64.wrap (j : Int) = (j : Int) := IntWalk.i64_in _ (by omega)
              have hlb2 : (Op.bytesLess n.name.toList (ls.getD j noNd).name.toList || n.name.toList == (ls.getD j noNd).name.toList) = lb := by rw [hlb]; simp [leS]
              have hj3 : (j : Int) < nn := by omega
              have HLT : Hid (b < w2.heap.size) := Lib.hid (Nat.lt_of_lt_of_le hb HQ2.out.size)
              have HNM : Hid (w2.cell? ⟨b, o + j * 39, none⟩ = some (.string (ls.getD j noNd).name)) := Lib.hid (HPREV.out w2 (HOS.out.q.step HQ2.out) (by omega))
              clear hlb
              generalize ls.getD j noNd = n0 at *
              clear HPREV HRS2 HSTOP
              -- REGION15
              refine wp_region_factsL (by kernel_rfl) (by kernel_rfl) (factsOf [.is (.int .i64 ((j : Int) + 1)), .is (.bool true), .is (.bool true), .is (.pointer (some ⟨wq2.heap.size, 0, none⟩)), .is (.string n.name), .is (.slice (some ⟨b, o, none⟩) nn nc), .is (.int .i64 ((j : Int) + 1)), .is (.int .i64 (j : Int)), .is (.pointer (some ⟨b, o + j * 39, none⟩)), .is (.pointer (some ⟨b, o + j * 39, none⟩)), .is (.string n0.name), .is (.bool lb), .is (.bool lb)]) (factsOf_stays _) ?_ ?_
              · refine ⟨?_, ?_, ?_, ?_, ?_, ?_, ?_, ?_, ?_, ?_, ?_, ?_, ?_, trivial⟩
                · intro ax wx hq hfr hd
                  have f7 : ax.tmps.getD 7 undef = .int .i64 ((j : Int) + 1) := (hfr 7 (by kernel_rfl)).trans rfl
                  have e7 := (getD_form _ _).symm.trans f7
                  exact .inl ⟨wanted_free rfl, OpDoes.run (v := .int .i64 ((j : Int) + 1)) (w' := wx) (by unfold execOp; simp only [Act.eval, f7, Sem.run_pure]) ⟨Below.refl _ _, rfl⟩⟩
                · intro ax wx hq hfr hd
                  have f44 : ax.tmps.getD 44 undef = .int .i64 ((j : Int) + 1) := hd 0 (by kernel_rfl) _ _ rfl rfl
                  have e44 := (getD_form _ _).symm.trans f44
                  exact .inl ⟨wanted_free rfl, OpDoes.run (v := .bool true) (w' := wx) (by unfold execOp; simp [go_sem, Act.eval, e44, hj1]) ⟨Below.refl _ _, rfl⟩⟩
                · intro ax wx hq hfr hd
                  have f45 : ax.tmps.getD 45 undef = .bool true := hd 1 (by kernel_rfl) _ _ rfl rfl
                  have e45 := (getD_form _ _).symm.trans f45
                  exact .inl ⟨wanted_free rfl, OpDoes.run (v := .bool true) (w' := wx) (by unfold execOp; simp only [Act.eval, f45, Sem.run_pure]) ⟨Below.refl _ _, rfl⟩⟩
                · intro ax wx hq hfr hd
                  have f8 : ax.tmps.getD 8 undef = .pointer (some ⟨wq2.heap.size, 0, none⟩) := (hfr 8 (by kernel_rfl)).trans rfl
                  have e8 := (getD_form _ _).symm.trans f8
                  exact .inl ⟨wanted_on rfl rfl rfl (hd 2 (by kernel_rfl) _ _ rfl rfl), OpDoes.run (v := .pointer (some ⟨wq2.heap.size, 0, none⟩)) (w' := wx) (by unfold execOp; simp [go_sem, Act.eval, e8]) ⟨Below.refl _ _, rfl⟩⟩
                · intro ax wx hq hfr hd
                  have f47 : ax.tmps.getD 47 undef = .pointer (some ⟨wq2.heap.size, 0, none⟩) := hd 3 (by kernel_rfl) _ _ rfl rfl
                  have e47 := (getD_form _ _).symm.trans f47
                  have hc := (NodeAt.of_row (row_q hq HB.out)).name
                  exact .inl ⟨wanted_on rfl rfl rfl (hd 2 (by kernel_rfl) _ _ rfl rfl), OpDoes.run (v := .string n.name) (w' := wx) (by unfold execOp; simp [go_sem, Act.eval, e47, hc]) ⟨Below.refl _ _, rfl⟩⟩
                · intro ax wx hq hfr hd
                  have f0 : ax.tmps.getD 0 undef = .slice (some ⟨b, o, none⟩) nn nc := (hfr 0 (by kernel_rfl)).trans rfl
                  have e0 := (getD_form _ _).symm.trans f0
                  exact .inl ⟨wanted_on rfl rfl rfl (hd 2 (by kernel_rfl) _ _ rfl rfl), OpDoes.run (v := .slice (some ⟨b, o, none⟩) nn nc) (w' := wx) (by unfold execOp; simp only [Act.eval, f0, Sem.run_pure]) ⟨Below.refl _ _, rfl⟩⟩
                · intro ax wx hq hfr hd
                  have f7 : ax.tmps.getD 7 undef = .int .i64 ((j : Int) + 1) := (hfr 7 (by kernel_rfl)).trans rfl
                  have e7 := (getD_form _ _).symm.trans f7
                  exact .inl ⟨wanted_on rfl rfl rfl (hd 2 (by kernel_rfl) _ _ rfl rfl), OpDoes.run (v := .int .i64 ((j : Int) + 1)) (w' := wx) (by unfold execOp; simp only [Act.eval, f7, Sem.run_pure]) ⟨Below.refl _ _, rfl⟩⟩
                · intro ax wx hq hfr hd
                  have f50 : ax.tmps.getD 50 undef = .int .i64 ((j : Int) + 1) := hd 6 (by kernel_rfl) _ _ rfl rfl
                  have e50 := (getD_form _ _).symm.trans f50
                  exact .inl ⟨wanted_on rfl rfl rfl (hd 2 (by kernel_rfl) _ _ rfl rfl), OpDoes.run (v := .int .i64 (j : Int)) (w' := wx) (by unfold execOp; simp [go_sem, Act.eval, e50, hj2]) ⟨Below.refl _ _, rfl⟩⟩
                · intro ax wx hq hfr hd
                  have f49 : ax.tmps.getD 49 undef = .slice (some ⟨b, o, none⟩) nn nc := hd 5 (by kernel_rfl) _ _ rfl rfl
                  have e49 := (getD_form _ _).symm.trans f49
                  have f51 : ax.tmps.getD 51 undef = .int .i64 (j : Int) := hd 7 (by kernel_rfl) _ _ rfl rfl
                  have e51 := (getD_form _ _).symm.trans f51
                  exact .inl ⟨wanted_on rfl rfl rfl (hd 2 (by kernel_rfl) _ _ rfl rfl), OpDoes.run (v := .pointer (some ⟨b, o + j * 39, none⟩)) (w' := wx) (by unfold execOp; simp [go_sem, Act.eval, e49, e51, add_addr, hj3]) ⟨Below.refl _ _, rfl⟩⟩
                · intro ax wx hq hfr hd
                  have f52 : ax.tmps.getD 52 undef = .pointer (some ⟨b, o + j * 39, none⟩) := hd 8 (by kernel_rfl) _ _ rfl rfl
                  have e52 := (getD_form _ _).symm.trans f52
                  exact .inl ⟨wanted_on rfl rfl rfl (hd 2 (by kernel_rfl) _ _ rfl rfl), OpDoes.run (v := .pointer (some ⟨b, o + j * 39, none⟩)) (w' := wx) (by unfold execOp; simp [go_sem, Act.eval, e52, add_addr]) ⟨Below.refl _ _, rfl⟩⟩
                · intro ax wx hq hfr hd
                  have f53 : ax.tmps.getD 53 undef = .pointer (some ⟨b, o + j * 39, none⟩) := hd 9 (by kernel_rfl) _ _ rfl rfl
                  have e53 := (getD_form _ _).symm.trans f53
                  have hc := (hq.cell (p := ⟨b, o + j * 39, none⟩) HLT.out).trans HNM.out
                  exact .inl ⟨wanted_on rfl rfl rfl (hd 2 (by kernel_rfl) _ _ rfl rfl), OpDoes.run (v := .string n0.name) (w' := wx) (by unfold execOp; simp [go_sem, Act.eval, e53, hc]) ⟨Below.refl _ _, rfl⟩⟩
                · intro ax wx hq hfr hd
                  have f48 : ax.tmps.getD 48 undef = .string n.name := hd 4 (by kernel_rfl) _ _ rfl rfl
                  have e48 := (getD_form _ _).symm.trans f48
                  have f54 : ax.tmps.getD 54 undef = .string n0.name := hd 10 (by kernel_rfl) _ _ rfl rfl
                  have e54 := (getD_form _ _).symm.trans f54
                  exact .inl ⟨wanted_on rfl rfl rfl (hd 2 (by kernel_rfl) _ _ rfl rfl), OpDoes.run (v := .bool lb) (w' := wx) (by unfold execOp; simp [go_sem, Act.eval, e48, e54, hlb2]) ⟨Below.refl _ _, rfl⟩⟩
                · intro ax wx hq hfr hd
                  have f46 : ax.tmps.getD 46 undef = .bool true := hd 2 (by kernel_rfl) _ _ rfl rfl
                  have e46 := (getD_form _ _).symm.trans f46
                  have f55 : ax.tmps.getD 55 undef = .bool lb := hd 11 (by kernel_rfl) _ _ rfl rfl
                  have e55 := (getD_form _ _).symm.trans f55
                  exact .inl ⟨wanted_free rfl, OpDoes.run (v := .bool lb) (w' := wx) (by unfold execOp; simp [go_sem, Act.eval, e46, e55]) ⟨Below.refl _ _, rfl⟩⟩
              · intro us wx hq hf
                have f56 : us 56 = .bool lb := hf 12 _ _ rfl rfl
                have HQX := Lib.hid hq
                clear hf hq
                simp only [fillSlots, List.setIfInBounds_toArray, List.set_cons_succ, List.set_cons_zero, f56]
                clear f56
                go_wp2_with fail
                go_meet
                exact ⟨rfl, HQX.out⟩
          case rest =>
            obtain ⟨rfl, HQX⟩ := hcut
            clear hlb
            cases lb
            · have HNX : Hid (risesTo ls (k + 1) = true) := Lib.hid (by rw [HRS2.out]; rfl)
              clear HSTOP HRS2 HPREV
              have HBC : Hid (wc.rowIs wq2.heap.size 26 39 (ndF n A pn pc)) := Lib.hid (row_q HQX.out HB.out)
              have HRC : Hid (ByN w wc u6 L6 wq2.heap.size n A pn pc) := Lib.hid ⟨HOS.out.step (HQ2.out.step HQX.out), NodeAt.of_row HBC.out, HBC.out.lt, fun h => by have := own_lt HOS.out.own _ h; omega⟩
              have hgd := HGK.out.1
              have HT1 : Hid (∀ w, Calls Try.prog 31 #[.string n.name] w fun e w' => e = .returned (.string (strB (textL n.name))) ∧ Hid (Q w w')) := Lib.hid fun w => (rtext_ok n.name (by have := hgd.name; omega) w).mono fun e w2 h => ⟨h.1, Lib.hid h.2⟩
              have HT2 : Hid (∀ w, Calls Try.prog 30 #[.int .i64 n.kind] w fun e w' => e = .returned (.string (strB (numZ n.kind))) ∧ Hid (Q w w')) := Lib.hid fun w => (rnumZ n.kind w (by rcases hgd.kind with h | h | h <;> omega) (by rcases hgd.kind with h | h | h <;> omega)).mono fun e w2 h => ⟨h.1, Lib.hid h.2⟩
              have HT3 : Hid (∀ w, Calls Try.prog 30 #[.int .i64 n.mode] w fun e w' => e = .returned (.string (strB (numZ n.mode))) ∧ Hid (Q w w')) := Lib.hid fun w => (rnumZ n.mode w hgd.mode.1 (by have := hgd.mode; omega)).mono fun e w2 h => ⟨h.1, Lib.hid h.2⟩
              have HT4 : Hid (∀ w, Calls Try.prog 30 #[.int .i64 n.time] w fun e w' => e = .returned (.string (strB (numZ n.time))) ∧ Hid (Q w w')) := Lib.hid fun w => (rnumZ n.time w hgd.time.1 (by have := hgd.time; omega)).mono fun e w2 h => ⟨h.1, Lib.hid h.2⟩
              obtain ⟨TR, hTR⟩ : ∃ TR, TR = if n.kind = 0 then numZ n.size ++ numL n.ids.length ++ n.ids.flatten else if n.kind = 1 then n.tree else textL n.target := ⟨_, rfl⟩
              have HEN : Hid (encNd n = textL n.name ++ numZ n.kind ++ numZ n.mode ++ numZ n.time ++ TR) := Lib.hid (by rw [hTR]; rfl)
              have HTR := Lib.hid hTR
              have hlen : (encNd n).length ≤ 200000 := encNd_len HGK.out.1 HGK.out.2.1 HGK.out.2.2.1 HGK.out.2.2.2
              rw [HEN.out] at hlen
              have HBY : Hid (∀ x ∈ textL n.name ++ numZ n.kind ++ numZ n.mode ++ numZ n.time ++ TR, x ≤ 255) := Lib.hid (by rw [← HEN.out]; exact encNd_byte (fun i hi => (HFT.out.2.1 i hi).2) HFT.out.2.2)
              rw [HEN.out] at HTK
              clear hTR HEN
              generalize textL n.name = T1 at *
              generalize numZ n.kind = T2 at *
              generalize numZ n.mode = T3 at *
              generalize numZ n.time = T4 at *
              simp only [List.length_append] at hlen
              obtain ⟨M2, hM2⟩ : ∃ M, M = T1 ++ T2 := ⟨_, rfl⟩
              obtain ⟨M3, hM3⟩ : ∃ M, M = M2 ++ T3 := ⟨_, rfl⟩
              obtain ⟨H4, hH4⟩ : ∃ M, M = M3 ++ T4 := ⟨_, rfl⟩
              have ha1 : ∀ w, (Op.stringOp .add (strB T1) (strB T2)).run Try.prog w = .ok (.string (strB M2)) w := by rw [hM2]; exact run_add_strB (P := Try.prog) T1 T2 (by omega)
              have ha2 : ∀ w, (Op.stringOp .add (strB M2) (strB T3)).run Try.prog w = .ok (.string (strB M3)) w := by rw [hM3]; exact run_add_strB (P := Try.prog) _ T3 (by rw [hM2, List.length_append]; omega)
              have ha3 : ∀ w, (Op.stringOp .add (strB M3) (strB T4)).run Try.prog w = .ok (.string (strB H4)) w := by rw [hH4]; exact run_add_strB (P := Try.prog) _ T4 (by rw [hM3, hM2, List.length_append, List.length_append]; omega)
              have hH4l : H4.length + TR.length ≤ 200000 := by rw [hH4, hM3, hM2]; simp only [List.length_append]; omega
              rw [← hM2, ← hM3, ← hH4] at HTK HBY
              have HB4 : Hid (∀ x ∈ H4, x ≤ 255) := Lib.hid fun x hx => HBY.out x (List.mem_append_left _ hx)
              have HS4 : Hid ((strB H4).size = H4.length) := Lib.hid (by rw [← bytesOf_len, bytesOf_strB HB4.out])
              obtain ⟨kd, hkd⟩ : ∃ kd, kd = n.kind := ⟨_, rfl⟩
              have HKD := Lib.hid hkd
              have HKK : Hid (kd = 0 ∨ kd = 1 ∨ kd = 2) := Lib.hid (by rw [hkd]; exact hgd.kind)
              clear hM2 hM3 hH4 hlen hkd hgd
              go_wp2_with fail
              -- REGION17
              refine wp_region_factsT 16 (of_decide_eq_true (by kernel_rfl)) (by kernel_rfl) (by kernel_rfl) (by kernel_rfl) (factsOf [.is (u6), .is (.pointer (some ⟨wq2.heap.size, 0, none⟩)), .is (.string n.name), .is (.string (strB (T1))), .is (.pointer (some ⟨wq2.heap.size, 1, none⟩)), .is (.int .i64 n.kind), .is (.string (strB (T2))), .is (.string (strB (M2))), .is (.pointer (some ⟨wq2.heap.size, 2, none⟩)), .is (.int .i64 n.mode), .is (.string (strB (T3))), .is (.string (strB (M3))), .is (.pointer (some ⟨wq2.heap.size, 3, none⟩)), .is (.int .i64 n.time), .is (.string (strB (T4))), .is (.string (strB (H4)))]) (factsOf_stays _) ?_ ?_
              · refine ⟨?_, ?_, ?_, ?_, ?_, ?_, ?_, ?_, ?_, ?_, ?_, ?_, ?_, ?_, ?_, ?_, trivial⟩
                · intro ax wx hq hfr hd
                  have f6 : ax.tmps.getD 6 undef = u6 := (hfr 6 (by kernel_rfl)).trans rfl
                  have e6 := (getD_form _ _).symm.trans f6
                  exact .inl ⟨wanted_free rfl, OpDoes.run (v := u6) (w' := wx) (by unfold execOp; simp only [Act.eval, f6, Sem.run_pure]) ⟨Below.refl _ _, rfl⟩⟩
                · intro ax wx hq hfr hd
                  have f8 : ax.tmps.getD 8 undef = .pointer (some ⟨wq2.heap.size, 0, none⟩) := (hfr 8 (by kernel_rfl)).trans rfl
                  have e8 := (getD_form _ _).symm.trans f8
                  exact .inl ⟨wanted_free rfl, OpDoes.run (v := .pointer (some ⟨wq2.heap.size, 0, none⟩)) (w' := wx) (by unfold execOp; simp [go_sem, Act.eval, e8]) ⟨Below.refl _ _, rfl⟩⟩
                · intro ax wx hq hfr hd
                  have f58 : ax.tmps.getD 58 undef = .pointer (some ⟨wq2.heap.size, 0, none⟩) := hd 1 (by kernel_rfl) _ _ rfl rfl
                  have e58 := (getD_form _ _).symm.trans f58
                  have hc := (NodeAt.of_row (row_q hq HBC.out)).name
                  exact .inl ⟨wanted_free rfl, OpDoes.run (v := .string n.name) (w' := wx) (by unfold execOp; simp [go_sem, Act.eval, e58, hc]) ⟨Below.refl _ _, rfl⟩⟩
                · intro ax wx hq hfr hd
                  have f59 : ax.tmps.getD 59 undef = .string n.name := hd 2 (by kernel_rfl) _ _ rfl rfl
                  have e59 := (getD_form _ _).symm.trans f59
                  exact .inl ⟨wanted_free rfl, OpDoes.call (f := 31) (args := #[.string n.name]) (w' := wx) (by unfold execOp; simp [go_sem, Act.eval, e59]) ((HT1.out wx).mono fun e w2 h => ⟨_, h.1, h.2.out, rfl⟩)⟩
                · intro ax wx hq hfr hd
                  have f8 : ax.tmps.getD 8 undef = .pointer (some ⟨wq2.heap.size, 0, none⟩) := (hfr 8 (by kernel_rfl)).trans rfl
                  have e8 := (getD_form _ _).symm.trans f8
                  exact .inl ⟨wanted_free rfl, OpDoes.run (v := .pointer (some ⟨wq2.heap.size, 1, none⟩)) (w' := wx) (by unfold execOp; simp [go_sem, Act.eval, e8]) ⟨Below.refl _ _, rfl⟩⟩
                · intro ax wx hq hfr hd
                  have f61 : ax.tmps.getD 61 undef = .pointer (some ⟨wq2.heap.size, 1, none⟩) := hd 4 (by kernel_rfl) _ _ rfl rfl
                  have e61 := (getD_form _ _).symm.trans f61
                  have hc := (NodeAt.of_row (row_q hq HBC.out)).kind
                  exact .inl ⟨wanted_free rfl, OpDoes.run (v := .int .i64 n.kind) (w' := wx) (by unfold execOp; simp [go_sem, Act.eval, e61, hc]) ⟨Below.refl _ _, rfl⟩⟩
                · intro ax wx hq hfr hd
                  have f62 : ax.tmps.getD 62 undef = .int .i64 n.kind := hd 5 (by kernel_rfl) _ _ rfl rfl
                  have e62 := (getD_form _ _).symm.trans f62
                  exact .inl ⟨wanted_free rfl, OpDoes.call (f := 30) (args := #[.int .i64 n.kind]) (w' := wx) (by unfold execOp; simp [go_sem, Act.eval, e62]) ((HT2.out wx).mono fun e w2 h => ⟨_, h.1, h.2.out, rfl⟩)⟩
                · intro ax wx hq hfr hd
                  have f60 : ax.tmps.getD 60 undef = .string (strB (T1)) := hd 3 (by kernel_rfl) _ _ rfl rfl
                  have e60 := (getD_form _ _).symm.trans f60
                  have f63 : ax.tmps.getD 63 undef = .string (strB (T2)) := hd 6 (by kernel_rfl) _ _ rfl rfl
                  have e63 := (getD_form _ _).symm.trans f63
                  exact .inl ⟨wanted_free rfl, OpDoes.run (v := .string (strB (M2))) (w' := wx) (by unfold execOp; simp [go_sem, Act.eval, e60, e63, ha1]) ⟨Below.refl _ _, rfl⟩⟩
                · intro ax wx hq hfr hd
                  have f8 : ax.tmps.getD 8 undef = .pointer (some ⟨wq2.heap.size, 0, none⟩) := (hfr 8 (by kernel_rfl)).trans rfl
                  have e8 := (getD_form _ _).symm.trans f8
                  exact .inl ⟨wanted_free rfl, OpDoes.run (v := .pointer (some ⟨wq2.heap.size, 2, none⟩)) (w' := wx) (by unfold execOp; simp [go_sem, Act.eval, e8]) ⟨Below.refl _ _, rfl⟩⟩
                · intro ax wx hq hfr hd
                  have f65 : ax.tmps.getD 65 undef = .pointer (some ⟨wq2.heap.size, 2, none⟩) := hd 8 (by kernel_rfl) _ _ rfl rfl
                  have e65 := (getD_form _ _).symm.trans f65
                  have hc := (NodeAt.of_row (row_q hq HBC.out)).mode
                  exact .inl ⟨wanted_free rfl, OpDoes.run (v := .int .i64 n.mode) (w' := wx) (by unfold execOp; simp [go_sem, Act.eval, e65, hc]) ⟨Below.refl _ _, rfl⟩⟩
                · intro ax wx hq hfr hd
                  have f66 : ax.tmps.getD 66 undef = .int .i64 n.mode := hd 9 (by kernel_rfl) _ _ rfl rfl
                  have e66 := (getD_form _ _).symm.trans f66
                  exact .inl ⟨wanted_free rfl, OpDoes.call (f := 30) (args := #[.int .i64 n.mode]) (w' := wx) (by unfold execOp; simp [go_sem, Act.eval, e66]) ((HT3.out wx).mono fun e w2 h => ⟨_, h.1, h.2.out, rfl⟩)⟩
                · intro ax wx hq hfr hd
                  have f64 : ax.tmps.getD 64 undef = .string (strB (M2)) := hd 7 (by kernel_rfl) _ _ rfl rfl
                  have e64 := (getD_form _ _).symm.trans f64
                  have f67 : ax.tmps.getD 67 undef = .string (strB (T3)) := hd 10 (by kernel_rfl) _ _ rfl rfl
                  have e67 := (getD_form _ _).symm.trans f67
                  exact .inl ⟨wanted_free rfl, OpDoes.run (v := .string (strB (M3))) (w' := wx) (by unfold execOp; simp [go_sem, Act.eval, e64, e67, ha2]) ⟨Below.refl _ _, rfl⟩⟩
                · intro ax wx hq hfr hd
                  have f8 : ax.tmps.getD 8 undef = .pointer (some ⟨wq2.heap.size, 0, none⟩) := (hfr 8 (by kernel_rfl)).trans rfl
                  have e8 := (getD_form _ _).symm.trans f8
                  exact .inl ⟨wanted_free rfl, OpDoes.run (v := .pointer (some ⟨wq2.heap.size, 3, none⟩)) (w' := wx) (by unfold execOp; simp [go_sem, Act.eval, e8]) ⟨Below.refl _ _, rfl⟩⟩
                · intro ax wx hq hfr hd
                  have f69 : ax.tmps.getD 69 undef = .pointer (some ⟨wq2.heap.size, 3, none⟩) := hd 12 (by kernel_rfl) _ _ rfl rfl
                  have e69 := (getD_form _ _).symm.trans f69
                  have hc := (NodeAt.of_row (row_q hq HBC.out)).time
                  exact .inl ⟨wanted_free rfl, OpDoes.run (v := .int .i64 n.time) (w' := wx) (by unfold execOp; simp [go_sem, Act.eval, e69, hc]) ⟨Below.refl _ _, rfl⟩⟩
                · intro ax wx hq hfr hd
                  have f70 : ax.tmps.getD 70 undef = .int .i64 n.time := hd 13 (by kernel_rfl) _ _ rfl rfl
                  have e70 := (getD_form _ _).symm.trans f70
                  exact .inl ⟨wanted_free rfl, OpDoes.call (f := 30) (args := #[.int .i64 n.time]) (w' := wx) (by unfold execOp; simp [go_sem, Act.eval, e70]) ((HT4.out wx).mono fun e w2 h => ⟨_, h.1, h.2.out, rfl⟩)⟩
                · intro ax wx hq hfr hd
                  have f68 : ax.tmps.getD 68 undef = .string (strB (M3)) := hd 11 (by kernel_rfl) _ _ rfl rfl
                  have e68 := (getD_form _ _).symm.trans f68
                  have f71 : ax.tmps.getD 71 undef = .string (strB (T4)) := hd 14 (by kernel_rfl) _ _ rfl rfl
                  have e71 := (getD_form _ _).symm.trans f71
                  exact .inl ⟨wanted_free rfl, OpDoes.run (v := .string (strB (H4))) (w' := wx) (by unfold execOp; simp [go_sem, Act.eval, e68, e71, ha3]) ⟨Below.refl _ _, rfl⟩⟩
              · intro us wx hq hf
                have f57 : us 57 = u6 := hf 0 _ _ (by omega) rfl rfl
                have f72 : us 72 = .string (strB (H4)) := hf 15 _ _ (by omega) rfl rfl
                have HQX := Lib.hid hq
                clear hf hq
                simp only [List.drop_succ_cons, List.drop_zero, List.take_succ_cons, List.take_zero, fillSlots, List.setIfInBounds_toArray, List.set_cons_succ, List.set_cons_zero, f57, f72]
                clear f57
                clear f72
                have HRX := Lib.hid (HRC.out.step HQX.out)
                clear ha1 ha2 ha3 HT1 HT2 HT3 HT4
                have hL6 := HL6.out
                rcases HKK.out with hkk | hkk | hkk
                · have hk0 : n.kind = 0 := by rw [← HKD.out]; exact hkk
                  have b0 : (kd == 0) = true := beq_iff_eq.2 hkk
                  have HTE : Hid (TR = numZ n.size ++ numL pn ++ n.ids.flatten) := Lib.hid (by rw [HTR.out, if_pos hk0, HFT.out.1.ids])
                  have HT5 : Hid (∀ w, Calls Try.prog 30 #[.int .i64 n.size] w fun e w' => e = .returned (.string (strB (numZ n.size))) ∧ Hid (Q w w')) := Lib.hid fun w => (rnumZ n.size w (HGK.out.1.file hk0).2.2.1.1 (by have := (HGK.out.1.file hk0).2.2.1; omega)).mono fun e w2 h => ⟨h.1, Lib.hid h.2⟩
                  have HT6 : Hid (∀ w, Calls Try.prog 30 #[.int .i64 (pn : Int)] w fun e w' => e = .returned (.string (strB (numL pn))) ∧ Hid (Q w w')) := Lib.hid fun w => (rnum_ok pn (by omega) w).mono fun e w2 h => ⟨h.1, Lib.hid h.2⟩
                  clear hk0 HTR
                  generalize numZ n.size = S1 at *
                  generalize numL pn = S2 at *
                  have htl : TR.length = S1.length + S2.length + n.ids.flatten.length := by rw [HTE.out]; simp only [List.length_append]
                  obtain ⟨S3, hS3⟩ : ∃ S, S = S1 ++ S2 := ⟨_, rfl⟩
                  have ha5 : ∀ w, (Op.stringOp .add (strB S1) (strB S2)).run Try.prog w = .ok (.string (strB S3)) w := by rw [hS3]; exact run_add_strB (P := Try.prog) S1 S2 (by omega)
                  rw [← hS3] at HTE
                  have hS3l : S3.length + n.ids.flatten.length ≤ 200000 := by rw [hS3, List.length_append]; omega
                  have HB3 : Hid (∀ x ∈ S3, x ≤ 255) := Lib.hid fun x hx => HBY.out x (List.mem_append_right _ (by rw [HTE.out]; exact List.mem_append_left _ hx))
                  have HS3 : Hid ((strB S3).size = S3.length) := Lib.hid (by rw [← bytesOf_len, bytesOf_strB HB3.out])
                  clear hS3 htl
                  go_wp2_with (first
                    | ((with_reducible refine gate 73 rfl ?_); go_loud (refine wpList_append_str rfl (.tmp 57) (.tmp 72) 40 9 rfl w.heap.size 5 i8 Try.underlying40 Try.underlying9 hi8 hz80 hz81 hz82 _ L6.length (L6.map B8) rfl HRX.out.by_.own (strB H4) rfl (by have := HS4.out; have := HL6.out; unfold maxLen; omega) (by have := HS4.out; have := HL6.out; omega) HRX.out.by_.q.size ?_; intro v7 w7 hown7 hgr7; have HR7 := Lib.hid (HRX.out.grow (HRX.out.by_.pushS HB4.out hown7 hgr7) hgr7); clear hown7 hgr7; obtain ⟨c0, c1, c2, c3, c4, c5, c6⟩ := nd_cells HR7.out.at_; rw [← HKD.out] at c1; clear c0 c2 c3))
                    | ((with_reducible refine gate 77 rfl ?_); go_loud (refine wpList_val (v := .bool true) (w' := w7) rfl (by unfold execOp; simp [go_sem, Act.eval, b0]) ?_))
                    | ((with_reducible refine gate 75 rfl ?_); go_loud (refine wpList_val (v := .int .i64 kd) (w' := w7) rfl (by unfold execOp; simp [go_sem, Act.eval, c1]) ?_)))
                  -- REGION20
                  refine wp_region_factsT 9 (of_decide_eq_true (by kernel_rfl)) (by kernel_rfl) (by kernel_rfl) (by kernel_rfl) (factsOf [.is (v7), .is (.pointer (some ⟨wq2.heap.size, 4, none⟩)), .is (.int .i64 n.size), .is (.string (strB S1)), .is (.pointer (some ⟨wq2.heap.size, 6, none⟩)), .is (.slice A pn pc), .is (.int .i64 (pn : Int)), .is (.string (strB S2)), .is (.string (strB S3))]) (factsOf_stays _) ?_ ?_
                  · refine ⟨?_, ?_, ?_, ?_, ?_, ?_, ?_, ?_, ?_, trivial⟩
                    · intro ax wx hq hfr hd
                      have f6 : ax.tmps.getD 6 undef = v7 := (hfr 6 (by kernel_rfl)).trans rfl
                      have e6 := (getD_form _ _).symm.trans f6
                      exact .inl ⟨wanted_free rfl, OpDoes.run (v := v7) (w' := wx) (by unfold execOp; simp only [Act.eval, f6, Sem.run_pure]) ⟨Below.refl _ _, rfl⟩⟩
                    · intro ax wx hq hfr hd
                      have f8 : ax.tmps.getD 8 undef = .pointer (some ⟨wq2.heap.size, 0, none⟩) := (hfr 8 (by kernel_rfl)).trans rfl
                      have e8 := (getD_form _ _).symm.trans f8
                      exact .inl ⟨wanted_free rfl, OpDoes.run (v := .pointer (some ⟨wq2.heap.size, 4, none⟩)) (w' := wx) (by unfold execOp; simp [go_sem, Act.eval, e8]) ⟨Below.refl _ _, rfl⟩⟩
                    · intro ax wx hq hfr hd
                      have f79 : ax.tmps.getD 79 undef = .pointer (some ⟨wq2.heap.size, 4, none⟩) := hd 1 (by kernel_rfl) _ _ rfl rfl
                      have e79 := (getD_form _ _).symm.trans f79
                      have hc := (HR7.out.step hq).at_.size
                      exact .inl ⟨wanted_free rfl, OpDoes.run (v := .int .i64 n.size) (w' := wx) (by unfold execOp; simp [go_sem, Act.eval, e79, hc]) ⟨Below.refl _ _, rfl⟩⟩
                    · intro ax wx hq hfr hd
                      have f80 : ax.tmps.getD 80 undef = .int .i64 n.size := hd 2 (by kernel_rfl) _ _ rfl rfl
                      have e80 := (getD_form _ _).symm.trans f80
                      exact .inl ⟨wanted_free rfl, OpDoes.call (f := 30) (args := #[.int .i64 n.size]) (w' := wx) (by unfold execOp; simp [go_sem, Act.eval, e80]) ((HT5.out wx).mono fun e w2 h => ⟨_, h.1, h.2.out, rfl⟩)⟩
                    · intro ax wx hq hfr hd
                      have f8 : ax.tmps.getD 8 undef = .pointer (some ⟨wq2.heap.size, 0, none⟩) := (hfr 8 (by kernel_rfl)).trans rfl
                      have e8 := (getD_form _ _).symm.trans f8
                      exact .inl ⟨wanted_free rfl, OpDoes.run (v := .pointer (some ⟨wq2.heap.size, 6, none⟩)) (w' := wx) (by unfold execOp; simp [go_sem, Act.eval, e8]) ⟨Below.refl _ _, rfl⟩⟩
                    · intro ax wx hq hfr hd
                      have f82 : ax.tmps.getD 82 undef = .pointer (some ⟨wq2.heap.size, 6, none⟩) := hd 4 (by kernel_rfl) _ _ rfl rfl
                      have e82 := (getD_form _ _).symm.trans f82
                      have hc := (HR7.out.step hq).at_.parts
                      exact .inl ⟨wanted_free rfl, OpDoes.run (v := .slice A pn pc) (w' := wx) (by unfold execOp; simp [go_sem, Act.eval, e82, hc]) ⟨Below.refl _ _, rfl⟩⟩
                    · intro ax wx hq hfr hd
                      have f83 : ax.tmps.getD 83 undef = .slice A pn pc := hd 5 (by kernel_rfl) _ _ rfl rfl
                      have e83 := (getD_form _ _).symm.trans f83
                      exact .inl ⟨wanted_free rfl, OpDoes.run (v := .int .i64 (pn : Int)) (w' := wx) (by unfold execOp; simp [go_sem, Act.eval, e83]) ⟨Below.refl _ _, rfl⟩⟩
                    · intro ax wx hq hfr hd
                      have f84 : ax.tmps.getD 84 undef = .int .i64 (pn : Int) := hd 6 (by kernel_rfl) _ _ rfl rfl
                      have e84 := (getD_form _ _).symm.trans f84
                      exact .inl ⟨wanted_free rfl, OpDoes.call (f := 30) (args := #[.int .i64 (pn : Int)]) (w' := wx) (by unfold execOp; simp [go_sem, Act.eval, e84]) ((HT6.out wx).mono fun e w2 h => ⟨_, h.1, h.2.out, rfl⟩)⟩
                    · intro ax wx hq hfr hd
                      have f81 : ax.tmps.getD 81 undef = .string (strB S1) := hd 3 (by kernel_rfl) _ _ rfl rfl
                      have e81 := (getD_form _ _).symm.trans f81
                      have f85 : ax.tmps.getD 85 undef = .string (strB S2) := hd 7 (by kernel_rfl) _ _ rfl rfl
                      have e85 := (getD_form _ _).symm.trans f85
                      exact .inl ⟨wanted_free rfl, OpDoes.run (v := .string (strB S3)) (w' := wx) (by unfold execOp; simp [go_sem, Act.eval, e81, e85, ha5]) ⟨Below.refl _ _, rfl⟩⟩
                  · intro us wx hq hf
                    have f78 : us 78 = v7 := hf 0 _ _ (by omega) rfl rfl
                    have f86 : us 86 = .string (strB S3) := hf 8 _ _ (by omega) rfl rfl
                    have HQX := Lib.hid hq
                    clear hf hq
                    simp only [List.drop_succ_cons, List.drop_zero, List.take_succ_cons, List.take_zero, fillSlots, List.setIfInBounds_toArray, List.set_cons_succ, List.set_cons_zero, f78, f86]
                    clear f78
                    clear f86
                    have HR8 := Lib.hid (HR7.out.step HQX.out)
                    clear ha5 HT5 HT6 c1 c4 c5 c6
                    go_wp2_with ((with_reducible refine gate 87 rfl ?_); go_loud (refine wpList_append_str rfl (.tmp 78) (.tmp 86) 40 9 rfl w.heap.size 5 i8 Try.underlying40 Try.underlying9 hi8 hz80 hz81 hz82 _ (L6 ++ H4).length ((L6 ++ H4).map B8) rfl HR8.out.by_.own (strB S3) rfl (by have := HS3.out; rw [List.length_append]; unfold maxLen; omega) (by have := HS3.out; rw [List.length_append]; omega) HR8.out.by_.q.size ?_; intro v9 w9 hown9 hgr9; have HR9 := Lib.hid (HR8.out.grow (HR8.out.by_.pushS HB3.out hown9 hgr9) hgr9); clear hown9 hgr9))
                    go_loopw [6, 9] (fun v i wr => ∃ j : Nat, j ≤ pn ∧ i = .int .i64 j ∧ Hid (ByN w wr v (L6 ++ H4 ++ S3 ++ (n.ids.take j).flatten) wq2.heap.size n A pn pc)) (fun _ i _ => pn - (intOf i).toNat)
                    case atStart => exact ⟨0, by omega, rfl, Lib.hid (by rw [List.take_zero]; simpa using HR9.out)⟩
                    case round =>
                      obtain ⟨j, hj, rfl, HJ⟩ := hrel
                      obtain ⟨wi, hwi⟩ : ∃ w, w = wr := ⟨_, rfl⟩
                      subst hwi
                      have c6 := (nd_cells HJ.out.at_).2.2.2.2.2.2
                      by_cases hjl : j < pn
                      · have hjn : j < n.ids.length := by rw [HFT.out.1.ids]; exact hjl
                        obtain ⟨ab, ao, ea, hab, hca⟩ := ids_at (SeesP.on HPA.out HJ.out.by_.q) j hjn
                        have hi32 := (HFT.out.2.1 _ (List.getElem_mem hjn)).1
                        have HTJ : Hid ((n.ids.take (j + 1)).flatten = (n.ids.take j).flatten ++ n.ids[j]) := Lib.hid (by rw [List.take_succ_eq_append_getElem hjn, List.flatten_append, List.flatten_cons, List.flatten_nil, List.append_nil])
                        have hjlen : (n.ids.take j).flatten.length ≤ n.ids.flatten.length := by
                          conv => rhs; rw [← List.take_append_drop j n.ids]
                          rw [List.flatten_append, List.length_append]; omega
                        generalize n.ids[j] = id at *
                        generalize (n.ids.take j).flatten = FL at *
                        have HCA := Lib.hid (sees_id hi32 hca)
                        clear hca hab
                        subst ea
                        have hji : (j : Int) < pn := by omega
                        have k32 := run_arr_all (P := Try.prog) 24 5 32 Try.underlying24 i8 hi8 hz81 ab (ao + j * 32)
                        go_wp2_with (first
                          | ((with_reducible refine gate 90 rfl ?_); go_loud (refine wpList_val (v := .slice (some ⟨ab, ao, none⟩) pn pc) (w' := wi) rfl (by unfold execOp; simp [go_sem, Act.eval, c6]) ?_))
                          | ((with_reducible refine gate 97 rfl ?_); go_loud (refine wpList_val (v := .slice (some ⟨ab, ao, none⟩) pn pc) (w' := wi) rfl (by unfold execOp; simp [go_sem, Act.eval, c6]) ?_))
                          | ((with_reducible refine gate 100 rfl ?_); go_loud (refine wpList_val (v := .slice (some ⟨ab, ao + j * 32, none⟩) 32 32) (w' := wi) rfl (by unfold execOp; simp [go_sem, Act.eval, k32 wi]) ?_))
                          | ((with_reducible refine gate 101 rfl ?_); go_loud (refine wpList_append_row rfl (.tmp 95) (.tmp 100) 40 rfl w.heap.size 5 i8 _ 1 Try.underlying40 hi8 hz80 hz81 hz82 rfl _ (L6 ++ H4 ++ S3 ++ FL).length ((L6 ++ H4 ++ S3 ++ FL).map B8) rfl HJ.out.by_.own (fun _ => True) (some ⟨ab, ao + j * 32, none⟩) 32 32 (id.map B8) rfl (fun h => by cases h) (by rw [List.length_map]; exact hi32) HCA.out (one_B8 id) (by simp only [List.length_append]; unfold maxLen; omega) (by simp only [List.length_append]; omega) HJ.out.by_.q.size ?_; intro va wa howna hgra; have HRA := Lib.hid (HJ.out.grow (HJ.out.by_.push hi32 howna hgra) hgra); clear howna hgra)))
                        go_roundw
                        case rel => exact ⟨j + 1, by omega, by go_num, by rw [HTJ.out, ← List.append_assoc]; exact HRA.out⟩
                        case measure => simp [intOf]; omega
                      · have hje : j = pn := by omega
                        have hjd : decide ((j : Int) < (pn : Int)) = false := decide_eq_false (by omega)
                        have HFU : Hid ((n.ids.take j).flatten = n.ids.flatten) := Lib.hid (by rw [hje, List.take_of_length_le (by rw [HFT.out.1.ids]; exact Nat.le_refl _)])
                        go_wp2_with (first | ((with_reducible refine gate 90 rfl ?_); go_loud (refine wpList_val (v := .slice A pn pc) (w' := wi) rfl (by unfold execOp; simp [go_sem, Act.eval, c6]) ?_)) | ((with_reducible refine gate 92 rfl ?_); go_loud (refine wpList_val (v := .bool false) (w' := wi) rfl (by unfold execOp; simp [go_sem, Act.eval, hjd]) ?_)))
                        go_roundw
                        case rel => exact ⟨k + 1, by omega, by go_num, HNX.out, by rw [HTK.out, HTE.out]; exact Lib.hid (by have h := HJ.out.by_; rw [HFU.out] at h; simpa only [List.append_assoc] using h)⟩
                        case measure => simp [intOf]; omega
                · have hk0 : n.kind = 1 := by rw [← HKD.out]; exact hkk
                  have b0 : (kd == 0) = false := beq_eq_false_iff_ne.2 (by omega)
                  have b1 : (kd == 1) = true := beq_iff_eq.2 hkk
                  have HTE : Hid (TR = n.tree) := Lib.hid (by rw [HTR.out, if_neg (by omega), if_pos hk0])
                  have ht32 := HFT.out.1.tree
                  clear hk0 HTR
                  have k32 := run_arr_all (P := Try.prog) 24 5 32 Try.underlying24 i8 hi8 hz81 wq2.heap.size 7
                  go_wp2_with (first
                    | ((with_reducible refine gate 73 rfl ?_); go_loud (refine wpList_append_str rfl (.tmp 57) (.tmp 72) 40 9 rfl w.heap.size 5 i8 Try.underlying40 Try.underlying9 hi8 hz80 hz81 hz82 _ L6.length (L6.map B8) rfl HRX.out.by_.own (strB H4) rfl (by have := HS4.out; have := HL6.out; unfold maxLen; omega) (by have := HS4.out; have := HL6.out; omega) HRX.out.by_.q.size ?_; intro v7 w7 hown7 hgr7; have HR7 := Lib.hid (HRX.out.grow (HRX.out.by_.pushS HB4.out hown7 hgr7) hgr7); clear hown7 hgr7; obtain ⟨c0, c1, c2, c3, c4, c5, c6⟩ := nd_cells HR7.out.at_; rw [← HKD.out] at c1; clear c0 c2 c3))
                    | ((with_reducible refine gate 77 rfl ?_); go_loud (refine wpList_val (v := .bool false) (w' := w7) rfl (by unfold execOp; simp [go_sem, Act.eval, b0]) ?_))
                    | ((with_reducible refine gate 103 rfl ?_); go_loud (refine wpList_val (v := .bool true) (w' := w7) rfl (by unfold execOp; simp [go_sem, Act.eval, b1]) ?_))
                    | ((with_reducible refine gate 75 rfl ?_); go_loud (refine wpList_val (v := .int .i64 kd) (w' := w7) rfl (by unfold execOp; simp [go_sem, Act.eval, c1]) ?_))
                    | ((with_reducible refine gate 106 rfl ?_); go_loud (refine wpList_val (v := .slice (some ⟨wq2.heap.size, 7, none⟩) 32 32) (w' := w7) rfl (by unfold execOp; simp [go_sem, Act.eval, k32 w7]) ?_))
                    | ((with_reducible refine gate 107 rfl ?_); go_loud (refine wpList_append_row rfl (.tmp 104) (.tmp 106) 40 rfl w.heap.size 5 i8 _ 1 Try.underlying40 hi8 hz80 hz81 hz82 rfl _ (L6 ++ H4).length ((L6 ++ H4).map B8) rfl HR7.out.by_.own (fun _ => True) (some ⟨wq2.heap.size, 7, none⟩) 32 32 (n.tree.map B8) rfl (fun h => by cases h) (by rw [List.length_map]; exact ht32) (sees_id ht32 (fun i hi => by simpa using HR7.out.at_.tree i hi)) (one_B8 n.tree) (by simp only [List.length_append]; unfold maxLen; omega) (by simp only [List.length_append]; omega) HR7.out.by_.q.size ?_; intro va wa howna hgra; have HRA := Lib.hid (HR7.out.grow (HR7.out.by_.push ht32 howna hgra) hgra); clear howna hgra)))
                  go_roundw
                  case rel => exact ⟨k + 1, by omega, by go_num, HNX.out, by rw [HTK.out, HTE.out, ← List.append_assoc]; exact Lib.hid HRA.out.by_⟩
                  case measure => simp [intOf]; omega
                · have hk0 : n.kind = 2 := by rw [← HKD.out]; exact hkk
                  have b0 : (kd == 0) = false := beq_eq_false_iff_ne.2 (by omega)
                  have b1 : (kd == 1) = false := beq_eq_false_iff_ne.2 (by omega)
                  have b2 : (kd == 2) = true := beq_iff_eq.2 hkk
                  have HTE : Hid (TR = textL n.target) := Lib.hid (by rw [HTR.out, if_neg (by omega), if_neg (by omega)])
                  have HT5 : Hid (∀ w, Calls Try.prog 31 #[.string n.target] w fun e w' => e = .returned (.string (strB TR)) ∧ Hid (Q w w')) := Lib.hid fun w => by
                    rw [HTE.out]; exact (rtext_ok n.target (by have := (HGK.out.1.link hk0).1; omega) w).mono fun e w2 h => ⟨h.1, Lib.hid h.2⟩
                  have HBT : Hid (∀ x ∈ TR, x ≤ 255) := Lib.hid fun x hx => HBY.out x (List.mem_append_right _ hx)
                  have HST : Hid ((strB TR).size = TR.length) := Lib.hid (by rw [← bytesOf_len, bytesOf_strB HBT.out])
                  clear hk0 HTR HTE
                  go_wp2_with (first
                    | ((with_reducible refine gate 73 rfl ?_); go_loud (refine wpList_append_str rfl (.tmp 57) (.tmp 72) 40 9 rfl w.heap.size 5 i8 Try.underlying40 Try.underlying9 hi8 hz80 hz81 hz82 _ L6.length (L6.map B8) rfl HRX.out.by_.own (strB H4) rfl (by have := HS4.out; have := HL6.out; unfold maxLen; omega) (by have := HS4.out; have := HL6.out; omega) HRX.out.by_.q.size ?_; intro v7 w7 hown7 hgr7; have HR7 := Lib.hid (HRX.out.grow (HRX.out.by_.pushS HB4.out hown7 hgr7) hgr7); clear hown7 hgr7; obtain ⟨c0, c1, c2, c3, c4, c5, c6⟩ := nd_cells HR7.out.at_; rw [← HKD.out] at c1; clear c0 c2 c3))
                    | ((with_reducible refine gate 77 rfl ?_); go_loud (refine wpList_val (v := .bool false) (w' := w7) rfl (by unfold execOp; simp [go_sem, Act.eval, b0]) ?_))
                    | ((with_reducible refine gate 103 rfl ?_); go_loud (refine wpList_val (v := .bool false) (w' := w7) rfl (by unfold execOp; simp [go_sem, Act.eval, b1]) ?_))
                    | ((with_reducible refine gate 109 rfl ?_); go_loud (refine wpList_val (v := .bool true) (w' := w7) rfl (by unfold execOp; simp [go_sem, Act.eval, b2]) ?_))
                    | ((with_reducible refine gate 75 rfl ?_); go_loud (refine wpList_val (v := .int .i64 kd) (w' := w7) rfl (by unfold execOp; simp [go_sem, Act.eval, c1]) ?_))
                    | ((with_reducible refine gate 112 rfl ?_); go_loud (refine wpList_val (v := .string n.target) (w' := w7) rfl (by unfold execOp; simp [go_sem, Act.eval, c5]) ?_))
                    | (go_at_call 31; go_loud ((with_reducible refine (HT5.out _).mono ?_); rintro e8 w8 ⟨rfl, hq8⟩; have HR8 := Lib.hid (HR7.out.step hq8.out); clear hq8))
                    | ((with_reducible refine gate 114 rfl ?_); go_loud (refine wpList_append_str rfl (.tmp 110) (.tmp 113) 40 9 rfl w.heap.size 5 i8 Try.underlying40 Try.underlying9 hi8 hz80 hz81 hz82 _ (L6 ++ H4).length ((L6 ++ H4).map B8) rfl HR8.out.by_.own (strB TR) rfl (by have := HST.out; rw [List.length_append]; unfold maxLen; omega) (by have := HST.out; rw [List.length_append]; omega) HR8.out.by_.q.size ?_; intro v9 w9 hown9 hgr9; have HR9 := Lib.hid (HR8.out.grow (HR8.out.by_.pushS HBT.out hown9 hgr9) hgr9); clear hown9 hgr9)))
                  go_roundw
                  case rel => exact ⟨k + 1, by omega, by go_num, HNX.out, by rw [HTK.out, ← List.append_assoc]; exact Lib.hid HR9.out.by_⟩
                  case measure => simp [intOf]; omega
            · have HNX := Lib.hid (HSTOP.out (by rw [HRS2.out]; rfl))
              go_wp2_with fail
              go_ret2
              rw [HNX.out]
              exact ⟨rfl, HOS.out.q.step (HQ2.out.step HQX.out)⟩
        · obtain rfl : nn = k := by omega
          have HNX : Hid (encN ls = (HD ++ zs.flatMap (fun z => encNd z.n), 0)) := Lib.hid (by
            unfold encN
            rw [if_neg (by rw [HLL.out]; exact hbig), if_neg (by rw [HFE.out]; simp), if_pos (by rw [HLL.out]; exact HRI.out), HHD.out, HLL.out, HLS.out, List.flatMap_map])
          rw [List.take_of_length_le (by rw [HZ.out]; exact Nat.le_refl _)] at HOS
          have hcv := HOS.out.str
          go_wp2_with fail
          go_ret2
          rw [HNX.out]
          exact ⟨rfl, HOS.out.q⟩
end Go.Proofs.Ytffenfhbiapefaa
