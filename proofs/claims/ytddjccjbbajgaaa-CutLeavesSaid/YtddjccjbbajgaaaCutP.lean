/- The walk through the law CutLeaves. -/
import Derived.Test.YtddjccjbbajgaaaCutO
import Derived.Test.YtddjccjbbajgaaaStr
import Derived.OwnWalk
namespace Go.Proofs.Ytddjccjbbajgaaa
set_option linter.unusedVariables false
set_option linter.unusedSimpArgs false
open Go.RowKit

/-- The pieces' blocks. -/
def PB (zs : List (Value × List Nat)) (g : Nat) : Prop := ∃ z ∈ zs, z.1.ownBlock = some g
/-- The pieces are rows, whatever is in them. -/
def Rows_ (w : World) (base : Nat) (zs : List (Value × List Nat)) : Prop := ∀ z ∈ zs, ∃ xs, w.ownsRow base 5 1 z.1 z.2.length xs
theorem Rows_.set {w : World} {base : Nat} {zs : List (Value × List Nat)} (h : Rows_ w base zs) (g j : Nat) (u : Value) : Rows_ (w.setCell ⟨g, j, none⟩ u) base zs := fun z hz => by
  obtain ⟨xs, hx⟩ := h z hz
  by_cases hg : z.1.ownBlock = some g
  · rcases Go.Joins.ownsRow_forms hx with ⟨h1, _⟩ | ⟨g', cap, h1⟩
    · rw [h1] at hg; simp [Value.ownBlock] at hg
    · rw [h1] at hg hx ⊢
      simp [Value.ownBlock] at hg
      subst hg
      exact ⟨_, (hx.stored j u).1⟩
  · exact ⟨xs, ownsRow_setCell_other hx (a := ⟨g, j, none⟩) hg u⟩
theorem Rows_.cell {w : World} {base : Nat} {zs : List (Value × List Nat)} (h : Rows_ w base zs) {z : Value × List Nat} (hz : z ∈ zs) {g c j : Nat} (hv : z.1 = .slice (some ⟨g, 0, none⟩) z.2.length c) (hj : j < z.2.length) :
    (∃ u, w.cell? ⟨g, j, none⟩ = some u) ∧ w.frozen? ⟨g, j, none⟩ = false := by
  obtain ⟨xs, hx⟩ := h z hz
  rw [hv] at hx
  refine ⟨?_, hx.frozenAt j⟩
  have hl : xs.length = z.2.length := by simpa using hx.1
  exact ⟨xs[j]'(by omega), by rw [hx.cellAt j (by omega), List.getElem?_eq_getElem (by omega)]⟩

set_option maxHeartbeats 16000000 in
set_option maxRecDepth 100000 in
theorem cutLeaves_walk (l m b : Int) (p n c K : Nat) (A : Option Addr) (x : List Nat) (w : World) (hp : p ≤ 18446744073709551615) (hs : SeesP w (· < w.heap.size) A (x.map B8)) (hK : K = min n 2500) (hlk : x.length = K) (hx : ∀ y ∈ x, y ≤ 255) (hnc : n ≤ c) (hcm : c ≤ 9223372036854775807) (hA : A = none → c = 0) :
    Calls Try.prog 8 #[ruleV l m b p, .slice A n c] w fun e w' => e = .returned (.bool true) ∧ Q w w' := by
  obtain ⟨i8, hi8, hz80, hz81, hz82⟩ := info_parts info8
  have hby := Lib.hid (fun w' => lawBytes A n c w' hnc hcm)
  rw [← hK] at hby
  have hKc : K ≤ c := by omega
  have hK1 : K ≤ 2500 := by omega
  have hto := Lib.hid (fun l m b p w' => lawTo l m b p w')
  have HR := Lib.hid (fun t => (RuleAt.new w l m b p t).drew)
  obtain ⟨ru, hru, hrm, hta⟩ := tame_any l m b p hp
  have hta := Lib.hid hta
  have hnew := Lib.hid (fun w' => newKnife_ok ru w' hru hrm)
  have HS := Lib.hid hs
  have HX := Lib.hid hx
  have HL := Lib.hid hlk
  have HA := Lib.hid hA
  clear hs hx hlk hK hA
  unfold ruleV at hto hta hnew ⊢
  go_enter Try.func8, Try.ntmps8
  go_upto_region 1 with fail
  go_cut [1] (fun bv wx => bv = .slice A K c ∧ Hid (Tamed w wx ru))
  case first =>
    go_region_with (first
      | (go_at_call 10; go_loud ((with_reducible refine (hby.out _).mono ?_); rintro e w1 ⟨rfl, rfl⟩))
      | (go_at_call 18; go_loud ((with_reducible refine (hta.out _).mono ?_); rintro e w8 ⟨rfl, hq8⟩; have HR8 := (HR.out _).q hq8 (by simp); have f0 := HR8.f0; have f1 := HR8.f1; have f2 := HR8.f2; have f3 := HR8.f3; have d0 := HR8.c0; have d1 := HR8.c1; have d2 := HR8.c2; have d3 := HR8.c3; have HR8 := Lib.hid HR8)))
    all_goals (go_wp2_with fail; go_meet; exact ⟨rfl, HR8.out.set _ _ _ _, Q.set4 (((Q.refl w).alloc _).drew.step hq8) (Nat.le_refl _) _ _ _ _, by simp [World.setCell]; exact Nat.lt_of_lt_of_le (by simp) hq8.size⟩)
  case rest =>
    obtain ⟨rfl, HT⟩ := hcut
    have c0 := HT.out.1.c0
    have c1 := HT.out.1.c1
    have c2 := HT.out.1.c2
    have c3 := HT.out.1.c3
    obtain ⟨cp, hcp⟩ : ∃ cp, cp = K + 50 := ⟨_, rfl⟩
    have hcpi : ((K : Int) + 50) = ((cp : Nat) : Int) := by omega
    have HCP := Lib.hid hcpi
    have hcp2 : cp ≤ 2600 := by omega
    clear hcp hcpi
    go_wp2_with (first
      | (go_at_call 12; go_loud ((with_reducible refine (hto.out _ _ _ _ _).mono ?_); rintro e w9 ⟨rfl, hq9⟩; have HT9 := Lib.hid (HT.out.step hq9); clear hq9 c0 c1 c2 c3))
      | (go_at_call 11; go_loud ((with_reducible refine (hnew.out _).mono ?_); rintro e wk ⟨kn, r, lb, rfl, hk, hqk⟩; have HTk := Lib.hid (HT9.out.step hqk); have HK : Hid (KnifeHas wk w.heap.size kn r lb ru [] (.slice none 0 0)) := hk.mono HT9.out.2.1.size; clear hk hqk))
      | (refine gate 27 rfl ?_; go_loud (refine wpList_make_own _ rfl (.const (.int .i64 0)) (.tmp 26) 25 rfl wk.heap.size 5 i8 _ 1 Try.underlying25 hi8 hz80 hz81 .i64 .i64 _ cp rfl rfl HCP.out (by rw [hz82]; omega) (by unfold maxLen; omega) (Nat.le_refl _) ?_; intro wm hownm hgm; have HOM := Lib.hid hownm; have HQm : Hid (Q wk wm) := Below.grown (Q.refl wk) hgm (Nat.le_refl _) (by simp); clear hownm hgm))
      | (at_builtin; go_loud (refine wpList_append_row rfl (.tmp 27) (.tmp 28) 25 rfl wk.heap.size 5 i8 _ 1 Try.underlying25 hi8 hz80 hz81 hz82 rfl _ 0 [] rfl HOM.out (· < w.heap.size) A K c (x.map B8) rfl HA.out (by rw [List.length_map, HL.out]) (HS.out.below (HTk.out.2.1.step HQm.out)) (B8_one _) (by unfold maxLen; omega) (by omega) HQm.out.size ?_; intro v1 wa hown1 hgr1; rw [Nat.zero_add, List.nil_append] at hown1; obtain ⟨B, bc, rfl⟩ := own_form hown1; have HO1 := Lib.hid hown1; have HQa : Hid (Q wk wa) := hgr1.below HQm.out HOM.out HQm.out.size; clear hown1 hgr1))
      | (go_at_call 15; (with_reducible refine (lawCuts _).mono ?_); rintro e w5 ⟨rfl, hq5⟩; have HO5 := Lib.hid (own_below HO1.out hq5); have HQ5 := Lib.hid (HQa.out.step hq5); have HK5 := Lib.hid (HK.out.q HQ5.out); have HT5 := Lib.hid (HTk.out.step HQ5.out); have hfd := Lib.hid (fun t => feed_one ru w.heap.size kn r lb bc [] x (.slice none 0 0) B (fun b => wk.heap.size ≤ b ∧ b < w5.heap.size) t w5 hru hrm HK5.out ru.open_nil (sees_own HO5.out) HX.out (fun g hg => ⟨hg.2, fun h => by have := HK.out.lt _ h; have := hg.1; omega⟩) (by rw [HL.out]; omega)); rw [HL.out] at hfd; clear hq5)
      | (go_at_call 17; go_loud ((with_reducible refine (hfd.out _).mono ?_); rintro e w3 ⟨zs, out, v', rfl, hF, hz⟩; have HF := Lib.hid hF; have HZ := Lib.hid hz; obtain ⟨oA, oc, rfl⟩ := own_form hF.outs; clear hF hz)))
    have hcount : zs.length ≤ 1000000 := by
      have h1 := congrArg List.length HZ.out
      rw [List.length_map] at h1
      have := ru.feed_count x []
      have := HL.out
      omega
    obtain ⟨N, hN⟩ : ∃ N, N = zs.length := ⟨_, rfl⟩
    have HN := Lib.hid hN
    rw [← hN] at hcount ⊢
    have HOUT := Lib.hid (sees_own HF.out.outs)
    -- the blocks of the pieces are nobody else's
    have HPB : Hid (∀ g, PB zs g → w.heap.size ≤ g ∧ w5.heap.size ≤ g ∧ ¬ KnifeS kn r lb v' g) := fun g ⟨z, hz, hg⟩ => by
      refine ⟨own_block (HF.out.pcs z hz).1 g hg, ?_, fun h => (HF.out.pcsFar z hz).1 g h hg⟩
      rcases HF.out.newPcs z hz g hg with h | h
      · simp [Value.ownBlock] at h
      · exact h
    have HOUT2 : Hid (∀ g, (oA.map (·.block)) = some g → ¬ PB zs g) := fun g hg ⟨z, hz, hzg⟩ => by
      have h := (HF.out.pcsFar z hz).2 g hzg
      rcases oA with _ | ⟨ob, oo, os⟩
      · cases hg
      · obtain ⟨g', c', hf⟩ := Go.Joins.ownsRow_form HF.out.outs (by cases zs; simp at hz; simp)
        injection hf with hf
        injection hf with hf
        cases hf
        simp at hg
        subst hg
        exact h rfl
    have H0 : Hid (Rows_ w3 w.heap.size zs ∧ Only (PB zs) w3 w3) := ⟨fun z hz => ⟨_, (HF.out.pcs z hz).1⟩, Only.refl _ _⟩
    have hinB : ∀ g, (Value.slice B K bc).ownBlock = some g → wk.heap.size ≤ g ∧ g < w5.heap.size := fun g hg => ⟨own_block HO5.out g hg, own_lt HO5.out g hg⟩
    have HINB := Lib.hid hinB
    clear hN hinB
    go_loopw [9, 10] (fun i _ wr => ∃ k : Nat, k ≤ N ∧ i = .int .i64 k ∧ Hid (Rows_ wr w.heap.size zs ∧ Only (PB zs) w3 wr)) (fun i _ _ => N - (intOf i).toNat)
    case atStart => exact ⟨0, by omega, rfl, H0.out⟩
    case round =>
      obtain ⟨k, hkN, rfl, HW⟩ := hrel
      by_cases hlt : k < N
      · have hkl : k < zs.length := by rw [← HN.out]; exact hlt
        obtain ⟨zA, zc, hz1⟩ := own_form (HF.out.pcs zs[k] (List.getElem_mem hkl)).1
        have hzne := (HF.out.pcs zs[k] (List.getElem_mem hkl)).2.1
        obtain ⟨pg, pc, hzf⟩ := Go.Joins.ownsRow_form (HF.out.pcs zs[k] (List.getElem_mem hkl)).1 (List.length_pos_iff.2 hzne)
        obtain ⟨bo, oo, e1, hbo, hco⟩ := HOUT.out.at_ (k := k) (u := zs[k].1) (by simp [hkl])
        subst e1
        have hbn : ¬ PB zs bo := HOUT2.out bo rfl
        have HCO : Hid (∀ wr, Only (PB zs) w3 wr → wr.cell? ⟨bo, oo + k, none⟩ = some (.slice (some ⟨pg, 0, none⟩) zs[k].2.length pc)) := fun wr ho => by
          rw [World.cell?_of_block (a := ⟨bo, oo + k, none⟩) (ho.block bo hbo.2 hbn), hco, hzf]
        have HPG : Hid (PB zs pg) := ⟨zs[k], List.getElem_mem hkl, by rw [hzf]; rfl⟩
        have HPC : Hid (∀ wr, Rows_ wr w.heap.size zs → ∀ j, j < zs[k].2.length → (∃ u, wr.cell? ⟨pg, j, none⟩ = some u) ∧ wr.frozen? ⟨pg, j, none⟩ = false) := fun wr hr j hj => hr.cell (List.getElem_mem hkl) hzf hj
        have hml : zs[k].2.length ≤ 1000000 := by
          have h1 : zs[k].2 ∈ (ru.feed [] x).1 := by rw [← HZ.out]; exact List.mem_map_of_mem (List.getElem_mem hkl)
          have h2 := (ru.whole_len hru ((ru.feed_whole x [] ru.open_nil).1 _ h1)).2
          have := hru.m16
          omega
        generalize zs[k].2.length = m at *
        clear hz1 hzne hzf hco hbo
        obtain ⟨wo, hwo⟩ : ∃ wo, wo = wr := ⟨_, rfl⟩
        subst hwo
        go_wp2_with fail
        go_loopw [10] (fun j wr => ∃ j' : Nat, j' ≤ m ∧ j = .int .i64 j' ∧ Hid (Rows_ wr w.heap.size zs ∧ Only (PB zs) w3 wr)) (fun j _ => m - (intOf j).toNat)
        case atStart => exact ⟨0, by omega, rfl, HW.out⟩
        case round =>
          obtain ⟨j, hjm, rfl, HJ⟩ := hrel
          have hco := HCO.out wr HJ.out.2
          by_cases hjt : j < m
          · obtain ⟨⟨u, hu⟩, hfz⟩ := HPC.out wr HJ.out.1 j hjt
            have HJ2 : Hid (∀ u, Rows_ (wr.setCell ⟨pg, j, none⟩ u) w.heap.size zs ∧ Only (PB zs) w3 (wr.setCell ⟨pg, j, none⟩ u)) := fun u => ⟨HJ.out.1.set pg j u, HJ.out.2.setCell (p := ⟨pg, j, none⟩) HPG.out u⟩
            go_wp2_with fail
            go_roundw
            case rel => exact ⟨j + 1, by omega, by go_num, HJ2.out _⟩
            case measure => simp [intOf]; omega
          · go_wp2_with fail
            go_roundw
            case rel => exact ⟨k + 1, by omega, by go_num, HJ.out⟩
            case measure => simp [intOf]; omega
      · obtain ⟨hW1, hW2⟩ := HW.out
        have HWO := Lib.hid hW2
        have HIN := Lib.hid (own_only (own_only HO5.out HF.out.only (fun g hg h => by have := HK5.out.lt; have h1 := (HINB.out g hg).1; have h2 := HK.out.lt g h; omega)) hW2 (fun g hg h => by have h1 := (HINB.out g hg).2; have h2 := (HPB.out g h).2.1; omega))
        have HKw := Lib.hid (HF.out.knife.only hW2 (fun k hk h => (HPB.out k h).2.2 hk))
        have HQw : Hid (Q w wr) := hW2.q (HF.out.only.q (HT5.out.2.1) (fun k hk => HK5.out.ge k hk)) (fun k hk => (HPB.out k hk).1)
        have HVB : Hid (∀ g, (Value.slice B K bc).ownBlock = some g → ¬ KnifeS kn r lb v' g) := fun g hg h => by
          have h1 := (HINB.out g hg).1
          have h2 := (HINB.out g hg).2
          rcases h with h | h | h | h
          · have := HK.out.lt g (.inl h); omega
          · have := HK.out.lt g (.inr (.inl h)); omega
          · have := HK.out.lt g (.inr (.inr (.inl h))); omega
          · rcases HF.out.newV g h with h' | h'
            · simp [Value.ownBlock] at h'
            · omega
        clear hW1 hW2 HW
        obtain ⟨wo, hwo⟩ : ∃ wo, wo = wr := ⟨_, rfl⟩
        subst hwo
        have HSB := Lib.hid (HS.out.below HQw.out)
        go_wp2_with (first
          | (refine gate 62 rfl ?_; refine wpList_convert_sees rfl 25 9 5 (.tmp 61) rfl Try.underlying25 Try.underlying5 Try.underlying9 _ B K bc x rfl HL.out (sees_own HIN.out) ?_)
          | (refine gate 64 rfl ?_; refine wpList_convert_sees rfl 25 9 5 (.tmp 63) rfl Try.underlying25 Try.underlying5 Try.underlying9 _ A K c x rfl HL.out HSB.out ?_))
        have HI0 : Hid (∃ xs, wo.ownsRow wk.heap.size 5 1 (.slice B K bc) K xs) := ⟨_, HIN.out⟩
        go_loopw [11] (fun j wr => ∃ j' : Nat, j' ≤ K ∧ j = .int .i64 j' ∧ Hid ((∃ xs, wr.ownsRow wk.heap.size 5 1 (.slice B K bc) K xs) ∧ Only (fun g => (Value.slice B K bc).ownBlock = some g) wo wr)) (fun j _ => K - (intOf j).toNat)
        case atStart => exact ⟨0, by omega, rfl, HI0.out, Only.refl _ _⟩
        case round =>
          obtain ⟨j, hjK, rfl, HJ⟩ := hrel
          by_cases hjt : j < K
          · obtain ⟨⟨xs, hxs⟩, ho⟩ := HJ.out
            obtain ⟨gb, cap, hf⟩ := Go.Joins.ownsRow_form hxs (by omega)
            injection hf with e1 _ e2
            subst e1
            subst e2
            have hxl : xs.length = K := by simpa using hxs.1
            have hu : wr.cell? ⟨gb, j, none⟩ = some (xs[j]'(by omega)) := by rw [hxs.cellAt j (by omega), List.getElem?_eq_getElem (by omega)]
            have hfz := hxs.frozenAt j
            have HJ2 := Lib.hid (fun u => (⟨⟨_, (hxs.stored j u).1⟩, ho.setCell (p := ⟨gb, j, none⟩) rfl u⟩ : (∃ xs, (wr.setCell ⟨gb, j, none⟩ u).ownsRow wk.heap.size 5 1 (.slice (some ⟨gb, 0, none⟩) K _) K xs) ∧ Only (fun g => (Value.slice (some ⟨gb, 0, none⟩) K _).ownBlock = some g) wo (wr.setCell ⟨gb, j, none⟩ u)))
            generalize xs[j]'(by omega) = uu at *
            clear hxs ho hxl
            go_wp2_with fail
            go_roundw
            case rel => exact ⟨j + 1, by omega, by go_num, HJ2.out _⟩
            case measure => simp [intOf]; omega
          · obtain ⟨_, ho⟩ := HJ.out
            have HKe := Lib.hid (HKw.out.only ho (fun k hk h => HVB.out k h hk))
            have HQe : Hid (Q w wr) := ho.q HQw.out (fun k hk => Nat.le_trans (Nat.le_of_lt HTk.out.2.2) (HINB.out k hk).1)
            clear HJ ho HIN HSB HKw
            by_cases hp0 : (ru.feed [] x).2 = []
            · have HN0 := Lib.hid (end_none ru w.heap.size kn r lb v' wr (hp0 ▸ HKe.out))
              have hcv : ∀ (X : Option Addr) (y q : Nat), (convert 25 9 (.slice X 0 y)).run Try.prog (wr.drewN q) = .ok (.string (strB [])) (wr.drewN q) := fun X y q =>
                run_convert_sees _ _ _ _ Try.underlying25 Try.underlying5 Try.underlying9 (fun _ => True) X 0 y [] rfl (SeesP.nil _ _ _)
              have f1 : (0 : Int) ≤ (K : Int) := Int.natCast_nonneg _
              have hw : (A = none ∧ c = 0 ∧ K = 0) ∨ (∃ ad, A = some ad ∧ c = K) ∨ (∃ ad, A = some ad ∧ ¬ c = K) := by
                rcases A with _ | ad
                · have := HA.out rfl
                  exact .inl ⟨rfl, this, by omega⟩
                · by_cases h : c = K
                  · exact .inr (.inl ⟨ad, rfl, h⟩)
                  · exact .inr (.inr ⟨ad, rfl, h⟩)
              have HW := Lib.hid hw
              clear hp0
              rcases hw with ⟨rfl, rfl, rfl⟩ | ⟨ad, rfl, rfl⟩ | ⟨ad, rfl, hcK⟩
              all_goals
                go_wp2_with (go_at_call 14; (with_reducible refine HN0.out.mono ?_); rintro e we ⟨rfl, rfl⟩)
                go_quiet (fail)
                go_wp2
                go_ret
                exact ⟨rfl, HQe.out.drewN _⟩
            · have HN1 := Lib.hid (end_some ru w.heap.size kn r lb _ v' wr hru HKe.out hp0)
              obtain ⟨vA, vc, rfl⟩ := own_form HKe.out.own
              have hjoin := ru.feed_join x []
              rw [List.nil_append] at hjoin
              obtain ⟨pl, hpl⟩ : ∃ pl, pl = (ru.feed [] x).2.length := ⟨_, rfl⟩
              obtain ⟨lo, hlo⟩ : ∃ lo, lo = (ru.feed [] x).1.flatten.length := ⟨_, rfl⟩
              have hKl : K = lo + pl := by
                have := congrArg List.length hjoin
                rw [List.length_append, HL.out] at this
                omega
              have hdrop : x.drop lo = (ru.feed [] x).2 := by
                conv => lhs; rw [← hjoin]
                rw [hlo, List.drop_left]
              have hpl1 : 1 ≤ pl := by rw [hpl]; exact List.length_pos_iff.2 hp0
              obtain ⟨ab, ao, e1, hab, hac⟩ := HS.out.at_ (k := 0) (u := B8 (x[0]'(by have := HL.out; omega))) (by rw [List.getElem?_map, List.getElem?_eq_getElem (by have := HL.out; omega)]; rfl)
              subst e1
              have hsub : IntKind.i64.wrap ((K : Int) - (pl : Int)) = (lo : Int) := by rw [IntWalk.i64_in _ (by omega)]; omega
              rw [← hpl] at HN1
              have HDR := Lib.hid hdrop
              have HPL := Lib.hid hpl
              have hlc : ¬ c = lo := by omega
              have f1 : (0 : Int) ≤ (lo : Int) := Int.natCast_nonneg _
              have f2 : (lo : Int) ≤ (K : Int) := by omega
              have f3 : lo ≤ K := by omega
              have hkl2 : K - lo = pl := by omega
              rw [← hpl] at HKe
              clear hac
              have HKL := Lib.hid hKl
              clear hjoin hlo hdrop hpl hp0 hab hKl
              go_wp2_with (go_at_call 14; go_loud ((with_reducible refine HN1.out.mono ?_); rintro e we ⟨rfl, hke, hoe⟩; have hQ2 : Hid (Q w we) := hoe.q HQe.out (fun k hk => HKe.out.ge k (by rcases hk with h | h | h; exact .inl h; exact .inr (.inl h); exact .inr (.inr (.inl h)))); have hc1 : ∀ q, (convert 25 9 (.slice vA pl vc)).run Try.prog (we.drewN q) = .ok (.string (strB (x.drop lo))) (we.drewN q) := (fun q => run_convert_sees _ _ _ _ Try.underlying25 Try.underlying5 Try.underlying9 _ vA pl vc (x.drop lo) (by rw [HDR.out, HPL.out]) ((by rw [HDR.out]; exact sees_own (own_only HKe.out.own hoe (fun g hg hs => by obtain ⟨h1, h2, h3⟩ := HKe.out.far; rcases hs with h | h | h; exact h1 (h ▸ hg); exact h2 (h ▸ hg); exact h3 (h ▸ hg))) : SeesP we _ vA ((x.drop lo).map B8)).drewN q)); have hc2 : ∀ q, (convert 25 9 (.slice (some ⟨ab, ao + lo, none⟩) pl (c - lo))).run Try.prog (we.drewN q) = .ok (.string (strB (x.drop lo))) (we.drewN q) := (fun q => run_convert_sees _ _ _ _ Try.underlying25 Try.underlying5 Try.underlying9 (· < w.heap.size) (some ⟨ab, ao + lo, none⟩) pl (c - lo) (x.drop lo) (by rw [List.length_drop, HL.out, hkl2]) ((by have h1 := (HS.out.below hQ2.out).cut (c := c) (l := lo) (s := 1) (by rw [List.length_map, HL.out]; omega); rw [show cutA (some ⟨ab, ao, none⟩) c lo 1 = some ⟨ab, ao + lo, none⟩ by unfold cutA; rw [if_neg hlc, Option.map_some, Nat.mul_one, add_addr], Nat.mul_one, ← List.map_drop] at h1; exact h1 : SeesP we (· < w.heap.size) (some ⟨ab, ao + lo, none⟩) ((x.drop lo).map B8)).drewN q))))
              go_quiet (fail)
              go_wp2
              go_ret
              exact ⟨rfl, hQ2.out.drewN _⟩

theorem cutLeaves_true (l : Int) (wl : (Lit.int .i64 l).wf = true) (m : Int) (wm : (Lit.int .i64 m).wf = true) (b : Int) (wb : (Lit.int .i64 b).wf = true) (a : Int) (wa : (Lit.int .u64 a).wf = true) (A : Option Addr) (n c : Nat) (zs : List Int) (w : World) (wA : IsRow .u8 w A n c zs) :
    Calls Try.prog 8 #[.agg #[.int .i64 l, .int .i64 m, .int .i64 b, .int .u64 a], .slice A n c] w fun e w' => e = .returned (.bool true) ∧ Below w.heap.size w w' := by
  obtain ⟨ha, ha'⟩ := wf64 wa
  obtain ⟨p, rfl⟩ := Int.eq_ofNat_of_zero_le ha
  obtain ⟨h1, h2, h3, h4, h5, h6⟩ := row8 wA (min n 2500) (by omega)
  exact cutLeaves_walk l m b p n c _ A _ w (by omega) h2 rfl h1 h3 h4 h5 h6
end Go.Proofs.Ytddjccjbbajgaaa
