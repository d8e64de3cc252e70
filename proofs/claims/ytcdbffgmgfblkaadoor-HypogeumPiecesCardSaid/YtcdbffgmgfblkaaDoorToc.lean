/- The walk through HypogeumKnife. -/
import Derived.Test.YtcdbffgmgfblkaaDoorTob
import Derived.Deep.DeepCutAuto
import Derived.Deep.QuietTactic
import Derived.BigQuiet
namespace Go.Proofs.YtcdbffgmgfblkaaDoor
set_option linter.unusedVariables false
set_option linter.unusedSimpArgs false
open Go.RowKit

theorem of_many (A : Option Addr) (n c : Nat) (P : List (Value × List Nat)) (w' : World) (hG : Glob w') (hs : SeesP w' (· < w'.heap.size) A (P.map (·.1))) (hp : PartsB w' (· < w'.heap.size) P) (hn : P.length = n) (hlen : (partsL P).length ≤ 10000000) (hn1 : n ≤ 100000) :
    Calls Tryd.prog 18 #[.slice A n c] w' fun e w'' => e = .returned (.agg (arrO (sha (partsL P)))) ∧ Hid (Q w' w'') := by
  refine (of_ok A n c P (· < w'.heap.size) w' hG hn hs hp (fun _ h => h) (by omega) (by omega)).mono ?_
  rintro e w'' ⟨V, rfl, h⟩
  exact ⟨by rw [arrO_eq h.out.1], h.out.2⟩
/-- The pieces of x are all there, in the row ps. -/
def AllCut (w1 wx : World) (ru : Rl) (x : List Nat) (ps : Value) : Prop :=
  ∃ zs kn r lb v, KSt w1 wx kn r lb ru zs ps [] v ∧ zs.map (fun z => z.2.length) = ru.sizes x ∧ partsL zs = x
/-- What End left: the last piece, or none. -/
def EndLeft (w1 wi wx : World) (kn r lb : Nat) (ru : Rl) (p : List Nat) (v : Value) (bb : Bool) (l : Value) : Prop :=
  (bb = false ∧ p = [] ∧ wx = wi) ∨ (bb = true ∧ p ≠ [] ∧ l = v ∧ KnifeHas wx w1.heap.size kn r lb ru [] (.slice none 0 0) ∧ Only (OwnK kn r lb) wi wx)
theorem fed_one_count {ru : Rl} {p : List Nat} {y : Nat} {zs2 : List (Value × List Nat)} (h : zs2.map (·.2) = (ru.feed p [y]).1) : zs2.length ≤ 1 := by
  have h1 := congrArg List.length h
  rw [List.length_map] at h1
  have := ru.feed_count [y] p
  simp only [List.length_cons, List.length_nil] at this
  omega
theorem pcs_one {w : World} {base : Nat} {zs : List (Value × List Nat)} (h : ∀ z ∈ zs, w.ownsRow base 5 1 z.1 z.2.length (z.2.map B8)) : ∀ u ∈ zs.map (·.1), u.oneCell' = true := fun u hu => by
  obtain ⟨z, hz, rfl⟩ := List.mem_map.1 hu
  obtain ⟨A, c, e⟩ := own_form (h z hz)
  rw [e]; rfl
theorem allCut_none {w1 wx : World} {ru : Rl} {x : List Nat} {ps : Value} {zs : List (Value × List Nat)} {kn r lb : Nat} {v : Value} (h : KSt w1 wx kn r lb ru zs ps [] v) (hz : zs.map (·.2) = (ru.feed [] x).1) (hp : [] = (ru.feed [] x).2) : AllCut w1 wx ru x ps := by
  refine ⟨zs, kn, r, lb, v, h, ?_, ?_⟩
  · rw [ru.sizes_eq, ← hz, ← hp, if_pos rfl, List.append_nil, List.map_map]; rfl
  · have := ru.feed_join x []
    rw [← hz, ← hp, List.append_nil] at this
    unfold partsL
    rw [List.flatMap_def, this]; rfl
theorem allCut_some {w1 wx : World} {ru : Rl} {x p : List Nat} {ps : Value} {zs : List (Value × List Nat)} {kn r lb : Nat} {v v' : Value} (h : KSt w1 wx kn r lb ru (zs ++ [(v, p)]) ps [] v') (hz : zs.map (·.2) = (ru.feed [] x).1) (hp : p = (ru.feed [] x).2) (hne : p ≠ []) : AllCut w1 wx ru x ps := by
  refine ⟨_, kn, r, lb, v', h, ?_, ?_⟩
  · rw [ru.sizes_eq, ← hz, ← hp, if_neg hne, List.map_append, List.map_map]; rfl
  · have := ru.feed_join x []
    rw [← hz, ← hp] at this
    unfold partsL
    rw [List.flatMap_def, List.map_append, List.flatten_append]
    simpa using this
theorem partsL_flat (zs : List (Value × List Nat)) : partsL zs = (zs.map (·.2)).flatten := by unfold partsL; rw [List.flatMap_def]

set_option maxHeartbeats 16000000 in
set_option maxRecDepth 100000 in
theorem knife_walk (A : Option Addr) (n c m : Nat) (x : List Nat) (w : World) (hG : Glob w) (hm : m = min n 2000) (hnc : n ≤ c) (hcm : c ≤ 9223372036854775807) (hlk : x.length = m) (hs : SeesP w (· < w.heap.size) A (x.map B8)) (hx : ∀ y ∈ x, y ≤ 255) :
    Calls Tryd.prog 13 #[.slice A n c] w fun e w' => e = .returned (.bool true) ∧ Q w w' := by
  obtain ⟨i8, hi8, hz80, hz81, hz82⟩ := info_parts info8
  obtain ⟨i24, hi24, hz240, hz241, hz242⟩ := info_parts info24
  have f1 : (if (2000 : Int) < (n : Int) then 2000 else (n : Int)) = (m : Int) := by split <;> omega
  have f2 : min (n : Int) 2000 = (m : Int) := by omega
  have s1 := run_cut_hi (P := Tryd.prog) 22 5 Tryd.underlying22 i8 hi8 A n c .i64 m (by omega)
  have hm1 : m ≤ 2000 := by omega
  have hmc : m ≤ c := by omega
  obtain ⟨ru, hru⟩ : ∃ ru, ru = topRule := ⟨_, rfl⟩
  have hrr : ru.Right := by rw [hru]; exact topRule_right
  have hrm : ru.m ≤ 18446744073709551615 := by rw [hru]; exact topRule_m
  have HRU := Lib.hid (fun w => rule_ok w)
  rw [← hru] at HRU
  have HNEW := Lib.hid (fun w' => newKnife_ok ru w' hrr hrm)
  have HST := Lib.hid (fun w' => stands_ok w')
  have HG := Lib.hid hG
  have HL := Lib.hid hlk
  have HS := Lib.hid hs
  have HX := Lib.hid hx
  clear hru hG hlk hs hx hm
  unfold ruleV at HRU HNEW
  go_enter Tryd.func13, Tryd.ntmps13
  go_wp2_with (first
    | (go_at_call 34; go_loud ((with_reducible refine (HRU.out _).mono ?_); rintro e w1 ⟨rfl, H1⟩))
    | (go_at_call 36; go_loud ((with_reducible refine (HNEW.out _).mono ?_); rintro e wk ⟨kn, r, lb, rfl, hk, hqk⟩; have HK := Lib.hid hk; have HQk := Lib.hid hqk; clear hk hqk))
    | (go_at_call 35; go_loud ((with_reducible refine (HST.out _ (HG.out.q (H1.out.trans' HQk.out))).mono ?_); rintro e w2 ⟨rfl, H2⟩)))
  have HK0 : Hid (KSt w1 w2 kn r lb ru [] (.slice none 0 0) [] (.slice none 0 0)) := (KSt.begin_ HK.out HQk.out).step H2.out
  clear f1 f2 s1 HST HK HQk H2 HNEW
  have HL' : Hid (∀ k, k < m → ∃ h : k < x.length, x[k] ≤ 255) := Lib.hid fun k hk => ⟨by rw [HL.out]; exact hk, HX.out _ (List.getElem_mem _)⟩
  go_loopw [5, 6] (fun ps i wr => ∃ k : Nat, k ≤ m ∧ i = .int .i64 k ∧ Hid (∃ zs v, KSt w1 wr kn r lb ru zs ps (ru.feed [] (x.take k)).2 v ∧ zs.map (·.2) = (ru.feed [] (x.take k)).1)) (fun _ i _ => m - (intOf i).toNat)
  case atStart => exact ⟨0, by omega, rfl, [], .slice none 0 0, by rw [List.take_zero, ru.feed_nil]; exact HK0.out, by rw [List.take_zero, ru.feed_nil]; rfl⟩
  case round =>
    obtain ⟨k, hk, rfl, HR⟩ := hrel
    obtain ⟨wo, hwo⟩ : ∃ wo, wo = wr := ⟨_, rfl⟩
    subst hwo
    by_cases hlt : k < m
    · obtain ⟨B, HBc⟩ : ∃ B, Hid (B = cutA A c k 1) := ⟨_, Lib.hid rfl⟩
      obtain ⟨zs, v, hK, hZ⟩ := HR.out
      have HKr := Lib.hid hK
      have HZ := Lib.hid hZ
      obtain ⟨y, hy⟩ : ∃ y, x[k]? = some y := ⟨_, List.getElem?_eq_getElem (HL'.out k hlt).1⟩
      have HY := Lib.hid hy
      have hy1 : y ≤ 255 := HX.out y (List.mem_of_getElem? hy)
      have HSB : Hid (SeesP wo (· < w.heap.size) B ([y].map B8)) := by
        have h3 := ((HS.out.below (H1.out.trans' HKr.out.q)).cut (c := c) (l := k) (s := 1) (by rw [List.length_map, HL.out]; omega)).take 1
        rw [Nat.mul_one, ← List.map_drop, ← List.map_take, ← HBc.out, List.drop_eq_getElem_cons (HL'.out k hlt).1] at h3
        have h4 : x[k]'(HL'.out k hlt).1 = y := by
          have := List.getElem?_eq_getElem (HL'.out k hlt).1
          rw [hy] at this; exact (Option.some.inj this).symm
        rw [h4] at h3
        exact h3
      have hle : w.heap.size ≤ w1.heap.size := H1.out.size
      have hfd : Hid (∀ t, Calls Tryd.prog 37 #[.pointer (some ⟨kn, 0, none⟩), .slice (some ⟨wo.heap.size, 0, none⟩) 1 1] (wo.alloc (.cells #[.slice B 1 (c - k)] t)) (FedOut wo w1.heap.size kn r lb ru (ru.feed [] (x.take k)).2 [y] v)) :=
        Lib.hid (fun t => feed_one ru w1.heap.size kn r lb (c - k) _ [y] v B (· < w.heap.size) t wo hrr hrm HKr.out.knife (ru.feed_whole _ _ ru.open_nil).2 HSB.out (by simpa using hy1) (fun g hg => ⟨by have := HKr.out.q.size; omega, HKr.out.knife.notS (by omega)⟩) (by simp))
      have hc1 : zs.length ≤ 2000 := by
        have h1 := congrArg List.length HZ.out
        rw [List.length_map] at h1
        have := ru.feed_count (x.take k) []
        rw [List.length_take, HL.out] at this
        omega
      clear hK hZ hy
      go_wp2_with (first
        | ((with_reducible refine gate 39 rfl ?_); go_loud (refine wpList_slice_lh rfl 22 (.tmp 35) (.tmp 36) (.tmp 38) rfl 5 Tryd.underlying22 i8 hi8 1 hz81 A m c rfl .i64 .i64 k (k + 1) rfl rfl (by omega) (by omega) ?_; rw [show k + 1 - k = 1 by omega, ← HBc.out]))
        | (go_at_call 37; go_loud ((with_reducible refine (hfd.out _).mono ?_); rintro e w3 ⟨zs2, out, v', rfl, hF, hz⟩; have HF := Lib.hid hF; have HZ2 := Lib.hid hz; obtain ⟨oA, oc, rfl⟩ := own_form hF.outs; clear hF hz; have hc2 := fed_one_count HZ2.out))
        | ((with_reducible refine gate 42 rfl ?_); go_loud (refine wpList_append_row rfl (.tmp 33) (.tmp 41) 31 rfl w1.heap.size 22 i24 _ 24 Tryd.underlying31 hi24 hz240 hz241 hz242 rfl _ zs.length (zs.map (fun (z : Value × List Nat) => z.1)) rfl (HKr.out.outs_fed HF.out) _ oA zs2.length oc (zs2.map (fun (z : Value × List Nat) => z.1)) rfl (own_nil HF.out.outs) (by simp) (sees_own HF.out.outs) (pcs_one (fun z hz => (HF.out.pcs z hz).1)) (by unfold maxLen; omega) (by omega) (by have := HKr.out.q.size; have := HF.out.only.size; omega) ?_; intro v4 w4 hown4 hgr4; have HK4 := Lib.hid (HKr.out.fed HF.out hgr4 hown4); clear hown4 hgr4)))
      go_roundw
      case rel =>
        refine ⟨k + 1, by omega, by go_num, ⟨zs ++ zs2, v', ?_, ?_⟩⟩
        · have h1 := HK4.out
          have h2 : x.take (k + 1) = x.take k ++ [y] := by
            rw [List.take_add_one, HY.out]; rfl
          rw [h2, ru.feed_append]
          exact h1
        · have h2 : x.take (k + 1) = x.take k ++ [y] := by
            rw [List.take_add_one, HY.out]; rfl
          rw [h2, ru.feed_append, List.map_append, HZ.out, HZ2.out]
      case measure => simp [intOf]; omega
    · obtain rfl : k = m := by omega
      obtain ⟨zs, v, hK, hZ⟩ := HR.out
      have HKr := Lib.hid hK
      have HZ := Lib.hid hZ
      rw [List.take_of_length_le (by rw [HL.out]; exact Nat.le_refl _)] at HKr HZ
      clear hK hZ HR
      obtain ⟨pp, hpp⟩ : ∃ pp, pp = (ru.feed [] x).2 := ⟨_, rfl⟩
      rw [← hpp] at HKr
      have HPP := Lib.hid hpp
      clear hpp
      go_upto_region 10 with fail
      go_cut [7, 8] (fun l ok wx => ∃ bb : Bool, ok = .bool bb ∧ Hid (EndLeft w1 wo wx kn r lb ru pp v bb l))
      case first =>
        by_cases hp : pp = []
        · subst hp
          have HE := Lib.hid (end_none ru _ kn r lb v wo HKr.out.knife)
          go_wp2_with (go_at_call 38; go_loud ((with_reducible refine HE.out.mono ?_); rintro e w5 ⟨rfl, rfl⟩))
          go_meet
          exact ⟨false, rfl, .inl ⟨rfl, rfl, rfl⟩⟩
        · have HE := Lib.hid (end_some ru _ kn r lb pp v wo hrr HKr.out.knife hp)
          have HP := Lib.hid hp
          clear hp
          go_wp2_with (go_at_call 38; go_loud ((with_reducible refine HE.out.mono ?_); rintro e w5 ⟨rfl, hk5, ho5⟩; have HK5 := Lib.hid hk5; have HO5 := Lib.hid ho5; clear hk5 ho5))
          go_meet
          exact ⟨true, rfl, .inr ⟨rfl, HP.out, rfl, HK5.out, HO5.out⟩⟩
      case rest =>
        obtain ⟨bb, rfl, HE⟩ := hcut
        go_upto_if 48 with fail
        go_cut [5] (fun ps wx => Hid (AllCut w1 wx ru x ps))
        case first =>
          cases bb with
          | false =>
            rcases HE.out with ⟨_, hp, hwx⟩ | ⟨h, _⟩
            · subst hp
              have HW : Hid (KSt w1 wc kn r lb ru zs u5 [] v) := by rw [hwx]; exact HKr.out
              clear hwx
              go_wp2_with fail
              go_meet
              exact allCut_none HW.out HZ.out HPP.out
            · cases h
          | true =>
            rcases HE.out with ⟨h, _⟩ | ⟨_, hp, hv, hk, ho⟩
            · cases h
            · obtain ⟨vA, vc, hvf⟩ := own_form HKr.out.knife.own
              have hc1 : zs.length ≤ 2000 := by
                have h1 := congrArg List.length HZ.out
                rw [List.length_map] at h1
                have := ru.feed_count x []
                rw [HL.out] at this
                omega
              obtain ⟨np, hnp⟩ : ∃ np, np = pp.length := ⟨_, rfl⟩
              rw [← hnp] at hvf
              rw [hvf] at hv
              subst hv
              have HKx : Hid (KSt w1 wo kn r lb ru zs u5 pp (.slice vA np vc)) := by rw [← hvf]; exact HKr.out
              have HP := Lib.hid hp
              have HKW := Lib.hid hk
              have HOW := Lib.hid ho
              have hle : w1.heap.size ≤ wc.heap.size := by have := HKx.out.q.size; have := ho.size; omega
              clear hp hk ho hvf hnp HKr HE
              go_wp2_with (((with_reducible refine gate 52 rfl ?_); go_loud (refine wpList_append_row rfl (.tmp 49) (.tmp 51) 31 rfl w1.heap.size 22 i24 _ 24 Tryd.underlying31 hi24 hz240 hz241 hz242 rfl _ zs.length (zs.map (fun (z : Value × List Nat) => z.1)) rfl (own_below (HKx.out.outs_took HOW.out) ((Q.refl wc).alloc _)) _ (some ⟨wc.heap.size, 0, none⟩) 1 1 [.slice vA np vc] rfl (fun h => by cases h) rfl (new1 wc [.slice vA np vc] _) (by simp [Value.oneCell']) (by unfold maxLen; omega) (by omega) (by rw [alloc_size]; omega) ?_; intro v4 w4 hown4 hgr4; have HK4 := Lib.hid (HKx.out.took HKW.out HOW.out hgr4 hown4); clear hown4 hgr4)))
              go_meet
              exact allCut_some HK4.out HZ.out HPP.out HP.out
        case rest =>
          obtain ⟨zs2, kn2, r2, lb2, v2, hK, hsz, hpl⟩ := hcut.out
          obtain ⟨pA, pc, rfl⟩ := own_form hK.outs
          have HK2 := Lib.hid hK
          have HPL := Lib.hid hpl
          obtain ⟨ns, hns⟩ : ∃ ns, ns = zs2.length := ⟨_, rfl⟩
          have hsl : (ru.sizes x).length = ns := by rw [← hsz, List.length_map, hns]
          have HZN : Hid (∀ j, j < ns → ∃ h : j < zs2.length, (ru.sizes x)[j]? = some (zs2[j].2.length)) := Lib.hid fun j hj => ⟨by omega, by rw [← hsz, List.getElem?_map, List.getElem?_eq_getElem (by omega)]; rfl⟩
          have hns1 : ns ≤ 2001 := by
            have := ru.feed_count x []
            have h2 := ru.sizes_eq x
            have h3 := congrArg List.length h2
            rw [List.length_append, List.length_map] at h3
            rw [HL.out] at this
            split at h3
            · simp at h3; omega
            · simp at h3; omega
          rw [← hns]
          have HNS := Lib.hid hns
          have HSL := Lib.hid hsl
          have HSZ : Hid (∀ wx, Q w wx → Calls Tryd.prog 33 #[.agg #[.int .i64 ru.least, .int .i64 ru.most, .int .i64 ru.bits, .int .u64 ru.m], .slice A k c] wx (SizesOut wx ru x)) := Lib.hid fun wx hq => by
            have h := sizes_ok ru A c x wx hrr hrm ((HS.out.below hq).more fun g hg => Nat.lt_of_lt_of_le hg hq.size) HX.out (by rw [HL.out]; omega)
            rw [HL.out] at h
            exact h
          clear hK hsz hpl hns hsl HE HPP HZ hcut
          go_wp2_with (first
            | (go_at_call 34; go_loud ((with_reducible refine (HRU.out _).mono ?_); rintro e w5 ⟨rfl, H5⟩))
            | (go_at_call 33; go_loud ((with_reducible refine (HSZ.out _ (H1.out.trans' (HK2.out.q.trans' H5.out))).mono ?_); rintro e w6 ⟨sv, rfl, hso, hq6⟩; rw [HSL.out] at hso; obtain ⟨sA, sc, rfl⟩ := own_form hso; have HSO := Lib.hid (sees_own hso); have H6 := Lib.hid hq6; clear hso hq6)))
          have HQ6 : Hid (Q w w6) := Lib.hid (H1.out.trans' (HK2.out.q.trans' (H5.out.trans' H6.out)))
          have HP6 : Hid (KSt w1 w6 kn2 r2 lb2 ru zs2 (.slice pA ns pc) [] v2) := by rw [HNS.out]; exact HK2.out.step (H5.out.trans' H6.out)
          clear HK2 H5 H6 HSZ HRU
          go_loopw [10] (fun i wr => ∃ j : Nat, j ≤ ns ∧ i = .int .i64 j ∧ Hid (Q w6 wr)) (fun i _ => ns - (intOf i).toNat)
          case atStart => exact ⟨0, by omega, rfl, Q.refl _⟩
          case round =>
            obtain ⟨j, hj, rfl, HQr⟩ := hrel
            by_cases hlt : j < ns
            · obtain ⟨hj1, hj2⟩ := HZN.out j hlt
              have HPr := HP6.out.step HQr.out
              obtain ⟨pb, po, e1, hpb, hpc⟩ := (sees_own HPr.outs).at_ (k := j) (u := zs2[j].1) (by rw [List.getElem?_map, List.getElem?_eq_getElem hj1]; rfl)
              obtain ⟨zA, zc, hz⟩ := own_form (HPr.pcs zs2[j] (List.getElem_mem hj1)).1
              obtain ⟨sb, so, e2, hsb, hsc⟩ := (HSO.out.keep (fun p hp => HQr.out.cell (p := p) hp.2)).at_ (k := j) (u := I64 zs2[j].2.length) (by rw [List.getElem?_map, hj2]; rfl)
              rw [hz] at hpc
              unfold I64 at hsc
              generalize zs2[j].2.length = q at hpc hsc
              clear hz HPr hj2 hpb hsb
              subst e1 e2
              go_wp2_with fail
              go_quiet (fail)
              go_wp2_with fail
              go_roundw
              case rel => exact ⟨j + 1, by omega, by go_num, HQr.out.drewN _⟩
              case measure => simp [intOf]; omega
            · obtain rfl : j = ns := by omega
              have hxl : x.length ≤ 10000000 := by rw [HL.out]; omega
              have HO1 : Hid (∀ wx, Q w6 wx → Calls Tryd.prog 18 #[.slice pA j pc] wx fun e w' => e = .returned (.agg (arrO (sha x))) ∧ Hid (Q wx w')) := Lib.hid fun wx hq => by
                have HPx := HP6.out.step hq
                have hle : w1.heap.size ≤ wx.heap.size := HPx.q.size
                have h := of_many pA j pc zs2 wx (HG.out.q (HQ6.out.trans' hq)) ((sees_own HPx.outs).more fun b hb => hb.2) (fun z hz => by
                  obtain ⟨zA, zc, hz2⟩ := own_form (HPx.pcs z hz).1
                  have h4 := (HPx.pcs z hz).1
                  rw [hz2] at h4
                  exact ⟨zA, _, zc, hz2, rfl, (sees_own h4).more fun b hb => hb.2, (HPx.pcs z hz).2⟩) HNS.out.symm (by rw [HPL.out]; exact hxl) (by omega)
                rw [HPL.out] at h
                exact h
              have HO2 : Hid (∀ wx t, Q w wx → Calls Tryd.prog 18 #[.slice (some ⟨wx.heap.size, 0, none⟩) 1 1] (wx.alloc (.cells #[.slice A k c] t)) fun e w' => e = .returned (.agg (arrO (sha x))) ∧ Hid (Q wx w')) := Lib.hid fun wx t hq => by
                have hq2 := (Q.refl wx).alloc (.cells #[.slice A k c] t)
                have h := of_many (some ⟨wx.heap.size, 0, none⟩) 1 1 [(.slice A k c, x)] _ (HG.out.q (hq.trans' hq2)) (new1 wx [.slice A k c] t) ((PartsB.on (part_all ((HS.out.below hq).more fun g hg => Nat.lt_of_lt_of_le hg hq.size) HL.out HX.out) hq2)) rfl (by simp [partsL]; exact hxl) (by omega)
                rw [show partsL [(Value.slice A k c, x)] = x by simp [partsL]] at h
                exact h.mono fun e w' h => ⟨h.1, hq2.trans' h.2.out⟩
              obtain ⟨X, hX⟩ : ∃ X, X = sha x := ⟨_, rfl⟩
              have lx : X.length = 32 := by rw [hX]; rfl
              rw [← hX] at HO1 HO2
              clear hX hxl HP6 HSO HZN HPL HNS HSL
              go_wp2_with (first
                | (go_at_call 18; ((with_reducible refine (HO1.out _ HQr.out).mono ?_); rintro e w7 ⟨rfl, H7⟩))
                | (go_at_call 18; ((with_reducible refine (HO2.out _ _ (HQ6.out.trans' (HQr.out.trans' H7.out))).mono ?_); rintro e w8 ⟨rfl, H8⟩))
                | ((with_reducible refine gate 89 rfl ?_); go_loud (refine wpList_val rfl (run_eq_same _ X lx _ _ _ _ rfl rfl rfl _) ?_)))
              go_ret
              exact ⟨rfl, HQ6.out.trans' (HQr.out.trans' (H7.out.trans' H8.out))⟩
theorem knife_true (A : Option Addr) (n c : Nat) (zs : List Int) (w : World) (w0 : IsRow .u8 w A n c zs) (hG : Glob w) :
    Calls Tryd.prog 13 #[.slice A n c] w fun e w' => e = .returned (.bool true) ∧ Below w.heap.size w w' := by
  obtain ⟨h1, h2, h3, h4, h5, h6⟩ := row8 w0 (min n 2000) (by omega)
  exact knife_walk A n c _ _ w hG rfl h4 h5 h1 h2 h3
end Go.Proofs.YtcdbffgmgfblkaaDoor
