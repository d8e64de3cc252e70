/- The walk through HypogeumPieces. -/
import Derived.Test.YtcdbffgmgfblkaaDoorToc
import Derived.Test.YtcdbffgmgfblkaaDoorTod
import Derived.Test.YtcdbffgmgfblkaaDoorRowS
import Derived.Test.YtcdbffgmgfblkaaDoorRegg
import Derived.Deep.RegionHeld3
namespace Go.Proofs.YtcdbffgmgfblkaaDoor
set_option linter.unusedVariables false
set_option linter.unusedSimpArgs false
open Go.RowKit

theorem gateS {P : Program} {w : World} {ops : Array Oper} {rest : List Oper} {o : Oper} {a : Act} {K : Exit → Act → World → Prop} (_hN : o.dst = none) (h : wpList P ops K (o :: rest) a w) : wpList P ops K (o :: rest) a w := h
/-- An array of 32 bytes, as a row's cells. -/
def gL (P : List Nat) : List Value := (List.range 32).map (arrF P)
theorem gL_len (P : List Nat) : (gL P).length = 32 := by simp [gL]
theorem gL_one (P : List Nat) : ∀ u ∈ gL P, u.oneCell' = true := fun u hu => by
  obtain ⟨i, _, rfl⟩ := List.mem_map.1 hu
  rfl
theorem gL_get (P : List Nat) (i : Nat) (hi : i < 32) : (gL P)[i]? = some (arrF P i) := by simp [gL, hi]
theorem run_build_arr {op : Oper} {a : Act} (x : Operand) (ho : op.op = .buildSlice 69 1 #[(0, x)]) (L : List Nat) (hx : a.eval x = .agg (arrO L)) (w : World) :
    (execOp a.eval op).run Tryd.prog w = .ok (.value (.slice (some ⟨w.heap.size, 0, none⟩) 1 1)) (w.alloc (.cells (gL L).toArray 28)) := by
  have h1 : (Instr.buildSlice 69 1 #[(0, .agg (arrO L))]).run Tryd.prog w = .ok (.slice (some ⟨w.heap.size, 0, none⟩) 1 1) (w.alloc (.cells (gL L).toArray 28)) := by kernel_rfl
  unfold execOp
  simp only [ho, List.map_toArray, List.map_cons, List.map_nil, hx, Sem.run_bind, h1, Result.andThen_ok, Sem.run_pure]
theorem infoA : (Tryd.prog.info? 28).map (fun i => (i.zero, i.size, i.bytes)) = some (some (.agg zer32), 32, 32) := by kernel_rfl
/-- Since world wo a row of bytes is put together: it lies in v. -/
structure Bx (wo wx : World) (v : Value) (L : List Nat) : Prop where
  own : wx.ownsRow wo.heap.size 5 1 v L.length (L.map B8)
  q : Q wo wx
theorem Bx.step {wo wx w' : World} {v : Value} {L : List Nat} (h : Bx wo wx v L) (hq : Q wx w') : Bx wo w' v L := ⟨own_below h.own hq, h.q.step hq⟩
theorem Bx.begin_ (wo : World) : Bx wo wo (.slice none 0 0) [] := ⟨World.ownsRow_nil _ _ _ _, Q.refl _⟩
theorem Bx.made {wo wx : World} {v : Value} {L : List Nat} (h : Bx wo wx v L) (t : TypeId) (ht : t = 5) : Bx wo (wx.alloc (.cells #[] t)) (.slice (some ⟨wx.heap.size, 0, none⟩) 0 0) [] := by
  subst ht
  exact ⟨own_mono (own_new wx 5 [] (by simp)) h.q.size, h.q.alloc _⟩
theorem Bx.grew {wo wx w' : World} {v v' : Value} {L M : List Nat} (h : Bx wo wx v L) (hown : w'.ownsRow wo.heap.size 5 1 v' (L.length + M.length) (L.map B8 ++ M.map B8)) (hg : Grew wx w' v v') : Bx wo w' v' (L ++ M) :=
  ⟨by rw [List.length_append, List.map_append]; exact hown, hg.q h.q h.own⟩
set_option maxHeartbeats 16000000 in
set_option maxRecDepth 100000 in
theorem pieces_walk (A : Option Addr) (n c m : Nat) (bl : List Nat) (A' : Option Addr) (n' c' mp : Nat) (pl : List Nat) (t : Int) (w : World) (hG : Glob w)
    (hm : m = min n 2000) (hnc : n ≤ c) (hcm : c ≤ 9223372036854775807) (hlk : bl.length = m) (hs : SeesP w (· < w.heap.size) A (bl.map B8)) (hx : ∀ y ∈ bl, y ≤ 255) (hA : A = none → c = 0)
    (hm' : mp = min n' 500) (hnc' : n' ≤ c') (hcm' : c' ≤ 9223372036854775807) (hlk' : pl.length = mp) (hs' : SeesP w (· < w.heap.size) A' (pl.map B8)) (hx' : ∀ y ∈ pl, y ≤ 255) (hA' : A' = none → c' = 0) :
    Calls Tryd.prog 12 #[.slice A n c, .slice A' n' c', .int .i64 t] w fun e w' => e = .returned (.bool true) ∧ Q w w' := by
  obtain ⟨i8, hi8, hz80, hz81, hz82⟩ := info_parts info8
  have f1 : (if (2000 : Int) < (n : Int) then 2000 else (n : Int)) = (m : Int) := by split <;> omega
  have f2 : min (n : Int) 2000 = (m : Int) := by omega
  have s1 := run_cut_hi (P := Tryd.prog) 22 5 Tryd.underlying22 i8 hi8 A n c .i64 m (by omega)
  have f1' : (if (500 : Int) < (n' : Int) then 500 else (n' : Int)) = (mp : Int) := by split <;> omega
  have f2' : min (n' : Int) 500 = (mp : Int) := by omega
  have s1' := run_cut_hi (P := Tryd.prog) 22 5 Tryd.underlying22 i8 hi8 A' n' c' .i64 mp (by omega)
  have hm1 : m ≤ 2000 := by omega
  have hmc : m ≤ c := by omega
  have hm1' : mp ≤ 500 := by omega
  have hmc' : mp ≤ c' := by omega
  obtain ⟨ru, hru⟩ : ∃ ru, ru = topRule := ⟨_, rfl⟩
  have hrr : ru.Right := by rw [hru]; exact topRule_right
  have hrm : ru.m ≤ 18446744073709551615 := by rw [hru]; exact topRule_m
  have HRU := Lib.hid (fun w => rule_ok w)
  rw [← hru] at HRU
  have HST := Lib.hid (fun w' => stands_ok w')
  have HG := Lib.hid hG
  have HL := Lib.hid hlk
  have HS := Lib.hid hs
  have HX := Lib.hid hx
  have HA := Lib.hid hA
  have HL' := Lib.hid hlk'
  have HS' := Lib.hid hs'
  have HX' := Lib.hid hx'
  have HA' := Lib.hid hA'
  obtain ⟨u1, hu1, hu1'⟩ := wrap_u64 t
  have d : ((m : Int) + 1 == 0) = false := beq_eq_false_iff_ne.2 (by omega)
  have e0 : IntKind.i64.wrap ((m : Int) + 1) = (m : Int) + 1 := IntWalk.i64_in _ (by omega)
  obtain ⟨k, g1, g2, hkm⟩ := one_cut u1 m (by omega)
  have HG1 := Lib.hid g1
  have HG2 := Lib.hid g2
  clear hu1' g1 g2 hru hG hlk hs hx hm hA hlk' hs' hx' hm' hA' e0
  unfold ruleV at HRU
  go_enter Tryd.func12, Tryd.ntmps12
  go_wp2_with fail
  go_quiet (fail)
  go_upto_region 3 with fail
  rw [HG1.out, HG2.out]
  clear HG1 HG2 f1 f2 s1 f1' f2' s1' d hu1
  obtain ⟨wo, hwo⟩ : ∃ wo, wo = w.drewN nq := ⟨_, rfl⟩
  rw [← hwo]
  have HQo : Hid (Q w wo) := Lib.hid (by rw [hwo]; exact (Q.refl w).drewN nq)
  clear hwo
  have s2 := run_cut_hi (P := Tryd.prog) 22 5 Tryd.underlying22 i8 hi8 A m c .i64 k (by omega)
  obtain ⟨B, HBc⟩ : ∃ B, Hid (B = cutA A c k 1) := ⟨_, Lib.hid rfl⟩
  have s3 := run_cut_lo (P := Tryd.prog) 22 5 Tryd.underlying22 i8 hi8 hz81 A m c .i64 k hkm B HBc.out
  have HSo : Hid (SeesP wo (· < w.heap.size) A ((bl.take k).map B8)) := by rw [List.map_take]; exact (HS.out.below HQo.out).take k
  have HSo' : Hid (SeesP wo (· < w.heap.size) A' (pl.map B8)) := HS'.out.below HQo.out
  have HSB : Hid (SeesP wo (· < w.heap.size) B ((bl.drop k).map B8)) := by
    have h3 := ((HS.out.below HQo.out)).cut (c := c) (l := k) (s := 1) (by rw [List.length_map, HL.out]; omega)
    rw [Nat.mul_one, ← List.map_drop, ← HBc.out] at h3
    exact h3
  have hB0 : Hid (B = none → c - k = 0) := Lib.hid fun h => by
    have h2 := HBc.out
    rw [h] at h2
    have h3 : A = none := by
      unfold cutA at h2
      split at h2
      · exact h2.symm
      · cases A with
        | none => rfl
        | some _ => cases h2
    have := HA.out h3
    omega
  have hwl : w.heap.size ≤ wo.heap.size := HQo.out.size
  go_cut [8] (fun cv wx => ∃ C cc, cv = .slice C (m + mp) cc ∧ Hid (SeesP wx (fun g => wo.heap.size ≤ g ∧ g < wx.heap.size) C ((putIn bl pl k).map B8)) ∧ m + mp ≤ cc ∧ Hid (Q wo wx))
  case first =>
    have HB : Hid (Bx wo wo.drew (.slice none 0 0) []) := (Bx.begin_ wo).step (Q.refl wo).drew
    go_region_held3 (fun _ => True) (exact trivial)
      (first
        | ((refine step_append_sees (by rfl) (.tmp 44) (.tmp 47) 22 (by rfl) wo.heap.size 5 i8 _ 1 Tryd.underlying22 hi8 hz80 hz81 hz82 rfl _ 0 [] (by rfl) (HB.out.made _ rfl).own (· < w.heap.size) A k c ((bl.take k).map B8) (by rfl) HA.out (by rw [List.length_map, List.length_take, HL.out]; omega) (HSo.out.belowP (fun b hb => Nat.lt_of_lt_of_le hb hwl) (HB.out.made _ rfl).q) (B8_one _) (by unfold maxLen; omega) (by omega) (HB.out.made _ rfl).q.size ?_); intro v1 w1 hown1 hgr1; rw [show 0 + k = ([] : List Nat).length + (bl.take k).length by rw [List.length_take, HL.out]; simp; omega] at hown1; replace HB := Lib.hid ((HB.out.made _ rfl).grew hown1 hgr1); rw [List.nil_append] at HB)
        | ((refine step_append_sees (by rfl) (.tmp 48) (.tmp 49) 22 (by rfl) wo.heap.size 5 i8 _ 1 Tryd.underlying22 hi8 hz80 hz81 hz82 rfl _ _ _ (by rfl) HB.out.own (· < w.heap.size) A' mp c' (pl.map B8) (by rfl) HA'.out (by rw [List.length_map, HL'.out]) (HSo'.out.belowP (fun b hb => Nat.lt_of_lt_of_le hb hwl) HB.out.q) (B8_one _) (by rw [List.length_take]; unfold maxLen; omega) (by rw [List.length_take]; omega) HB.out.q.size ?_); intro v2 w2 hown2 hgr2; replace HB := Lib.hid (HB.out.grew (by rw [HL'.out]; exact hown2) hgr2))
        | ((refine step_append_sees (by rfl) (.tmp 50) (.tmp 53) 22 (by rfl) wo.heap.size 5 i8 _ 1 Tryd.underlying22 hi8 hz80 hz81 hz82 rfl _ _ _ (by rfl) HB.out.own (· < w.heap.size) B (m - k) (c - k) ((bl.drop k).map B8) (by rfl) hB0.out (by rw [List.length_map, List.length_drop, HL.out]) (HSB.out.belowP (fun b hb => Nat.lt_of_lt_of_le hb hwl) HB.out.q) (B8_one _) (by rw [List.length_append, List.length_take, HL'.out]; unfold maxLen; omega) (by rw [List.length_append, List.length_take, HL'.out]; omega) HB.out.q.size ?_); intro v3 w3 hown3 hgr3; replace HB := Lib.hid (HB.out.grew (by rw [List.length_drop, HL.out]; exact hown3) hgr3)))
    all_goals
      go_wp2_with fail
      go_meet
      obtain ⟨C, cc, hf⟩ := own_form HB.out.own
      have hlen : (bl.take k ++ pl ++ bl.drop k).length = m + mp := by
        have := putIn_len bl pl k (by rw [HL.out]; exact hkm)
        rw [HL.out, HL'.out] at this
        exact this
      have ho := HB.out.own
      rw [hlen] at hf
      rw [hf] at ho ⊢
      exact ⟨C, cc, rfl, sees_own ho, (own_cap ho).1, HB.out.q⟩
  case rest =>
    obtain ⟨C, cc, rfl, HC, hMc, HQc⟩ := hcut
    obtain ⟨cl, hcl⟩ : ∃ cl, cl = putIn bl pl k := ⟨_, rfl⟩
    rw [← hcl] at HC
    have hkl : k ≤ bl.length := by rw [HL.out]; exact hkm
    have hcll : cl.length = m + mp := by rw [hcl, putIn_len bl pl k hkl, HL.out, HL'.out]
    have hclb : ∀ y ∈ cl, y ≤ 255 := fun y hy => by
      rw [hcl] at hy
      unfold putIn at hy
      rcases List.mem_append.1 hy with hy | hy
      · rcases List.mem_append.1 hy with hy | hy
        · exact HX.out y (List.mem_of_mem_take hy)
        · exact HX'.out y hy
      · exact HX.out y (List.mem_of_mem_drop hy)
    obtain ⟨X, hXX⟩ : ∃ X, X = ru.sizes bl := ⟨_, rfl⟩
    obtain ⟨Y, hYY⟩ : ∃ Y, Y = ru.sizes cl := ⟨_, rfl⟩
    have HMET : Hid (∀ i j at_, i < Y.length → at_ = (Y.take i).sum → at_ = (X.take j).sum + mp → k + mp ≤ at_ → ∃ h : j < X.length, ∃ h' : i < Y.length, X[j] = Y[i] ∧ pieceAt bl X j = pieceAt cl Y i) := Lib.hid fun i j at_ hi ha hj hge => by
      subst hXX hYY hcl
      obtain ⟨h1, h2, h3⟩ := ru.met_step bl pl hkl hi ha (by rw [HL'.out]; exact hj) (by rw [HL'.out]; exact hge)
      exact ⟨h1, hi, h2, h3⟩
    have HAHEAD : Hid (∀ i, i < Y.length → (Y.take (i + 1)).sum ≤ k → (Y.take (i + 1)).sum < m + mp → ∃ _ : i < X.length, pieceAt bl X i = pieceAt cl Y i) := Lib.hid fun i hi he hlt => by
      have hcll' := hcll
      subst hXX hYY hcl
      exact ru.ahead_step bl pl hkl hi he (by rw [hcll']; exact hlt)
    have hXs : X.sum = m := by rw [hXX, ru.sizes_sum, HL.out]
    have hYs : Y.sum = m + mp := by rw [hYY, ru.sizes_sum, hcll]
    have hXn : X.length ≤ m := by
      rw [hXX, ← HL.out]; exact sizes_len ru hrr bl
    have hYn : Y.length ≤ m + mp := by
      rw [hYY, ← hcll]; exact sizes_len ru hrr cl
    have HSZ1 : Hid (∀ wx, Q w wx → Calls Tryd.prog 33 #[.agg #[.int .i64 ru.least, .int .i64 ru.most, .int .i64 ru.bits, .int .u64 ru.m], .slice A m c] wx (SizesOut wx ru bl)) := Lib.hid fun wx hq => by
      have h := sizes_ok ru A c bl wx hrr hrm ((HS.out.below hq).more fun g hg => Nat.lt_of_lt_of_le hg hq.size) HX.out (by rw [HL.out]; omega)
      rw [HL.out] at h
      exact h
    have HSZ2 : Hid (∀ wx, Q wc wx → Calls Tryd.prog 33 #[.agg #[.int .i64 ru.least, .int .i64 ru.most, .int .i64 ru.bits, .int .u64 ru.m], .slice C (m + mp) cc] wx (SizesOut wx ru cl)) := Lib.hid fun wx hq => by
      have h := sizes_ok ru C cc cl wx hrr hrm ((HC.out.belowP (fun b hb => hb.2) hq).more fun g hg => Nat.lt_of_lt_of_le hg.2 hq.size) hclb (by omega)
      rw [hcll] at h
      exact h
    obtain ⟨nx, hnx⟩ : ∃ nx, nx = X.length := ⟨_, rfl⟩
    obtain ⟨ny, hny⟩ : ∃ ny, ny = Y.length := ⟨_, rfl⟩
    obtain ⟨M, hM⟩ : ∃ M, M = m + mp := ⟨_, rfl⟩
    rw [← hnx] at hXn
    rw [← hny] at hYn
    have HXX := Lib.hid hXX
    have HYY := Lib.hid hYY
    have HNX := Lib.hid hnx
    have HNY := Lib.hid hny
    have HXS := Lib.hid hXs
    have HYS := Lib.hid hYs
    have HCL := Lib.hid hcll
    have HCB := Lib.hid hclb
    clear hcl hcll hclb hXX hYY hnx hny hXs hYs s2 s3 HBc HSo HSo' HSB hB0
    have HQ0 : Hid (Q w wc) := Lib.hid (HQo.out.trans' HQc.out)
    go_wp2_with (first
      | (go_at_call 34; ((with_reducible refine (HRU.out wc).mono ?_); rintro e w1 ⟨rfl, H1⟩))
      | (go_at_call 33; ((with_reducible refine (HSZ1.out _ (HQ0.out.trans' H1.out)).mono ?_); rintro e w2 ⟨sv, rfl, hso, hq2⟩; rw [← HXX.out, ← HNX.out] at hso; obtain ⟨xA, xc, rfl⟩ := own_form hso; have HSX := Lib.hid (sees_own hso); have H2 := Lib.hid (H1.out.trans' hq2); clear hso hq2))
      | (go_at_call 34; go_loud ((with_reducible refine (HRU.out w2).mono ?_); rintro e w3 ⟨rfl, H3⟩))
      | (go_at_call 33; go_loud ((with_reducible refine (HSZ2.out _ (H2.out.trans' H3.out)).mono ?_); rintro e w4 ⟨sv2, rfl, hso2, hq4⟩; rw [← HYY.out, ← HNY.out] at hso2; obtain ⟨yA, yc, rfl⟩ := own_form hso2; have HSY := Lib.hid (sees_own hso2); have H4 := Lib.hid hq4; clear hso2 hq4))
      | (go_at_call 35; go_loud ((with_reducible refine (HST.out _ (HG.out.q (HQ0.out.trans' (H2.out.trans' (H3.out.trans' H4.out))))).mono ?_); rintro e w5 ⟨rfl, H5⟩)))
    have HQ25 : Hid (Q w2 w5) := Lib.hid (H3.out.trans' (H4.out.trans' H5.out))
    have HQc5 : Hid (Q wc w5) := Lib.hid (H2.out.trans' HQ25.out)
    have HQ5 : Hid (Q w w5) := Lib.hid (HQ0.out.trans' HQc5.out)
    have HSX5 : Hid (SeesP w5 (· < w5.heap.size) xA (X.map I64)) := Lib.hid (SeesP.on (HSX.out.more fun b hb => hb.2) HQ25.out)
    have HSY5 : Hid (SeesP w5 (· < w5.heap.size) yA (Y.map I64)) := Lib.hid (SeesP.on (HSY.out.more fun b hb => hb.2) H5.out)
    have HC5 : Hid (SeesP w5 (· < w5.heap.size) C (cl.map B8)) := Lib.hid (SeesP.on (HC.out.more fun b hb => hb.2) HQc5.out)
    have HB5 : Hid (SeesP w5 (· < w5.heap.size) A (bl.map B8)) := Lib.hid (SeesP.on HS.out HQ5.out)
    have HG5 : Hid (Glob w5) := Lib.hid (HG.out.q HQ5.out)
    clear HSX HSY HC HS HS' HSZ1 HSZ2 HRU HST H1 H2 H3 H4 H5 HQ25 HQc5 HQc HQo HQ0 HG HX' HA'
    obtain ⟨iA, hiA, hzA0, hzA1, hzA2⟩ := info_parts infoA
    obtain ⟨G, hGG⟩ : ∃ G : Nat → List Nat, G = fun j => sha (pieceAt bl X j) := ⟨_, rfl⟩
    have HGG : Hid (∀ j, G j = sha (pieceAt bl X j)) := Lib.hid fun j => by rw [hGG]
    clear hGG
    have HX1 : Hid (∀ j, j < nx → ∃ h : j < X.length, (X.take (j + 1)).sum = (X.take j).sum + X[j] ∧ (X.take (j + 1)).sum ≤ m ∧ X.getD j 0 = X[j]) := Lib.hid fun j hj => by
      have hj' : j < X.length := by rw [← HNX.out]; exact hj
      have h2 := sum_take_le X (j + 1)
      rw [HXS.out] at h2
      exact ⟨hj', sum_take_succ X j hj', h2, getD_of hj'⟩
    have HY1 : Hid (∀ j, j < ny → ∃ h : j < Y.length, (Y.take (j + 1)).sum = (Y.take j).sum + Y[j] ∧ (Y.take (j + 1)).sum ≤ m + mp ∧ Y.getD j 0 = Y[j]) := Lib.hid fun j hj => by
      have hj' : j < Y.length := by rw [← HNY.out]; exact hj
      have h2 := sum_take_le Y (j + 1)
      rw [HYS.out] at h2
      exact ⟨hj', sum_take_succ Y j hj', h2, getD_of hj'⟩
    have HOF : Hid (∀ wx t T (L : List Nat) q z, Q w5 wx → SeesP wx (· < wx.heap.size) T (L.map B8) → (∀ y ∈ L, y ≤ 255) → L.length = q → q ≤ 1000000 → Calls Tryd.prog 18 #[.slice (some ⟨wx.heap.size, 0, none⟩) 1 1] (wx.alloc (.cells #[.slice T q z] t)) fun e w' => e = .returned (.agg (arrO (sha L))) ∧ Hid (Q wx w')) := Lib.hid fun wx t T L q z hq hs hb hl hl1 => by
      have hq2 := (Q.refl wx).alloc (.cells #[.slice T q z] t)
      have h := of_many (some ⟨wx.heap.size, 0, none⟩) 1 1 [(.slice T q z, L)] _ (HG5.out.q (hq.trans' hq2)) (new1 wx [.slice T q z] t) ((PartsB.on (part_all hs hl hb) hq2)) rfl (by simp [partsL]; omega) (by omega)
      rw [show partsL [(Value.slice T q z, L)] = L by simp [partsL]] at h
      exact h.mono fun e w' h => ⟨h.1, hq2.trans' h.2.out⟩
    go_loopw [13, 14, 15] (fun sv fv iv wr => ∃ j fr : Nat, j ≤ nx ∧ iv = .int .i64 j ∧ fv = .int .i64 fr ∧ Hid (fr = (X.take j).sum) ∧ Hid (wr.ownsRow w5.heap.size 28 32 sv j ((List.range j).flatMap fun q => gL (G q))) ∧ Hid (Q w5 wr)) (fun _ _ iv _ => nx - (intOf iv).toNat)
    case atStart => exact ⟨0, 0, by omega, rfl, rfl, by show _ = _; simp, World.ownsRow_nil _ _ _ _, Q.refl _⟩
    case round =>
      obtain ⟨j, fr, hj, rfl, rfl, HFR, HOW, HQr⟩ := hrel
      obtain ⟨wi, hwi⟩ : ∃ wi, wi = wr := ⟨_, rfl⟩
      subst hwi
      by_cases hlt : j < nx
      · obtain ⟨hj1, hj2, hj3, hj4⟩ := HX1.out j hlt
        rw [← HFR.out] at hj2
        obtain ⟨xb, xo, e1, hxb, hx5⟩ := HSX5.out.at_ (k := j) (u := I64 X[j]) (by simp [hj1])
        unfold I64 at hx5
        have HX5 := Lib.hid hx5
        have HXB := Lib.hid hxb
        have hxc := (HQr.out.cell (p := ⟨xb, xo + j, none⟩) hxb).trans hx5
        clear hx5 hxb
        have HPC : Hid (pieceAt bl X j = (bl.drop fr).take X[j]) := by
          show _ = _
          unfold pieceAt
          rw [hj4, ← HFR.out]
        have hpl : (pieceAt bl X j).length = X[j] := by
          rw [HPC.out, List.length_take, List.length_drop, HL.out]
          omega
        have hpb : ∀ y ∈ pieceAt bl X j, y ≤ 255 := fun y hy => by
          rw [HPC.out] at hy
          exact HX.out y (List.mem_of_mem_drop (List.mem_of_mem_take hy))
        obtain ⟨Bj, HBj⟩ : ∃ B, Hid (B = cutA A c fr 1) := ⟨_, Lib.hid rfl⟩
        have hsp : SeesP wi (· < wi.heap.size) Bj ((pieceAt bl X j).map B8) := by
          have h3 := ((HB5.out.on HQr.out).cut (c := c) (l := fr) (s := 1) (by rw [List.length_map, HL.out]; omega)).take X[j]
          rw [Nat.mul_one, ← List.map_drop, ← List.map_take, ← HBj.out] at h3
          rw [HPC.out]
          exact h3
        have HFR2 : Hid (fr + X[j] = (X.take (j + 1)).sum) := Lib.hid hj2.symm
        have hfm : fr + X[j] ≤ m := by omega
        have HOFj := Lib.hid (fun t => HOF.out wi t Bj _ X[j] (c - fr) HQr.out hsp hpb hpl (by omega))
        rw [← HGG.out] at HOFj
        generalize X[j] = q at *
        clear hj1 hj2 hj3 hj4 hpl hpb hsp HPC
        subst e1
        have hle : w5.heap.size ≤ wi.heap.size := HQr.out.size
        go_wp2_with (first
          | ((with_reducible refine gate 92 rfl ?_); go_loud (refine wpList_slice_lh rfl 22 (.tmp 84) (.tmp 85) (.tmp 91) rfl 5 Tryd.underlying22 i8 hi8 1 hz81 A m c rfl .i64 .i64 fr (fr + q) rfl rfl (by omega) (by omega) ?_; rw [Nat.add_sub_cancel_left, ← HBj.out]))
          | (go_at_call 18; go_loud ((with_reducible refine (HOFj.out _).mono ?_); rintro e w6 ⟨rfl, H6⟩))
          | ((with_reducible refine gate 95 rfl ?_); go_loud (refine wpList_val rfl (run_build_arr (.tmp 94) rfl _ rfl _) ?_; have HOW6 := Lib.hid (own_q HOW.out H6.out); have hle6 : w5.heap.size ≤ w6.heap.size := Nat.le_trans hle H6.out.size))
          | ((with_reducible refine gate 96 rfl ?_); go_loud (refine wpList_append_agg rfl (.tmp 83) (.tmp 95) 69 rfl w5.heap.size 28 iA (.agg zer32) 32 32 Tryd.underlying69 hiA hzA0 hzA1 hzA2 rfl (by omega) _ j _ rfl HOW6.out (gL (G j)) _ w6.heap.size rfl rfl (gL_len _) (gL_one _) (by unfold maxLen; omega) (by omega) hle6 ?_; intro v7 w7 hown7 hgr7 _; have H7 := Lib.hid hown7; have HQ7 := Lib.hid (hgr7.q (HQr.out.trans' H6.out) HOW6.out); have hxc7 := (HQ7.out.cell (p := ⟨xb, xo + j, none⟩) HXB.out).trans HX5.out; clear hown7 hgr7)))
        go_roundw
        case rel => exact ⟨j + 1, fr + q, by omega, by go_num, by go_num, HFR2.out, Lib.hid (by rw [List.range_succ, List.flatMap_append]; simpa using H7.out), HQ7.out⟩
        case measure => simp [intOf]; omega
      · obtain rfl : nx = j := by omega
        obtain ⟨sA, sc, rfl⟩ := own_form HOW.out
        obtain ⟨wz, hwz⟩ : ∃ wz, wz = wi := ⟨_, rfl⟩
        subst hwz
        have HSZ : Hid (SeesP wz (· < wz.heap.size) sA ((List.range nx).flatMap fun q => gL (G q))) := Lib.hid ((own_seesS HOW.out).more fun b hb => hb.2)
        have HSXz : Hid (SeesP wz (· < wz.heap.size) xA (X.map I64)) := Lib.hid (HSX5.out.on HQr.out)
        have HSYz : Hid (SeesP wz (· < wz.heap.size) yA (Y.map I64)) := Lib.hid (HSY5.out.on HQr.out)
        have HCz : Hid (SeesP wz (· < wz.heap.size) C (cl.map B8)) := Lib.hid (HC5.out.on HQr.out)
        have HQz : Hid (Q w wz) := Lib.hid (HQ5.out.trans' HQr.out)
        have HOFz : Hid (∀ wx t T (L : List Nat) q z, Q wz wx → SeesP wx (· < wx.heap.size) T (L.map B8) → (∀ y ∈ L, y ≤ 255) → L.length = q → q ≤ 1000000 → Calls Tryd.prog 18 #[.slice (some ⟨wx.heap.size, 0, none⟩) 1 1] (wx.alloc (.cells #[.slice T q z] t)) fun e w' => e = .returned (.agg (arrO (sha L))) ∧ Hid (Q wx w')) := Lib.hid fun wx t T L q z hq => HOF.out wx t T L q z (HQr.out.trans' hq)
        clear HOW HSX5 HSY5 HC5 HB5 HOF HFR HQr HG5 hj HX
        go_wp2_with fail
        go_loopw [2, 16, 17] (fun av mv iv wr => ∃ (at_ i : Nat) (mb : Bool), i ≤ ny ∧ iv = .int .i64 i ∧ av = .int .i64 at_ ∧ mv = .bool mb ∧ Hid (at_ = (Y.take i).sum) ∧ Hid (mb = true → ∃ j, at_ = (X.take j).sum + mp ∧ k + mp ≤ at_) ∧ Hid (Q wz wr)) (fun _ _ iv _ => ny - (intOf iv).toNat)
        case atStart => exact ⟨0, 0, false, by omega, rfl, rfl, rfl, by show _ = _; simp, Lib.hid (fun h => by cases h), Q.refl _⟩
        case round =>
          obtain ⟨at_, i, mb, hi, rfl, rfl, rfl, HAT, HMB, HQr⟩ := hrel
          obtain ⟨wr', hwr⟩ : ∃ w', w' = wr := ⟨_, rfl⟩
          subst hwr
          by_cases hlt : i < ny
          · obtain ⟨hi1, hi2, hi3, hi4⟩ := HY1.out i hlt
            obtain ⟨yb, yo, e1, hyb, hyc⟩ := (HSYz.out.on HQr.out).at_ (k := i) (u := I64 Y[i]) (by simp [hi1])
            unfold I64 at hyc
            rw [← HAT.out] at hi2
            obtain ⟨e, he⟩ : ∃ e, e = at_ + Y[i] := ⟨_, rfl⟩
            have HET : Hid (e = (Y.take (i + 1)).sum) := Lib.hid (he.trans hi2.symm)
            have heM : e ≤ m + mp := by rw [HET.out]; exact hi3
            have hae : at_ ≤ e := by omega
            have HPC : Hid (pieceAt cl Y i = (cl.drop at_).take (e - at_)) := by
              show _ = _
              unfold pieceAt
              rw [hi4, ← HAT.out, he, Nat.add_sub_cancel_left]
            have HMJ : Hid (∀ j, at_ = (X.take j).sum + mp → k + mp ≤ at_ → j < nx ∧ pieceAt bl X j = pieceAt cl Y i ∧ e = (X.take (j + 1)).sum + mp) := Lib.hid fun j h1 h2 => by
              obtain ⟨g1, g2, g3, g4⟩ := HMET.out i j at_ hi1 HAT.out h1 h2
              have g5 := sum_take_succ X j g1
              exact ⟨by rw [HNX.out]; exact g1, g4, by omega⟩
            generalize Y[i] = q at he hyc
            have HE := Lib.hid he
            clear he hi1 hi2 hi3 hi4 hyb
            subst e1
            go_upto_region 20 with fail
            go_cut [18] (fun v wx => v = .int .i64 (e : Nat) ∧ wx = wr')
            case first =>
              have he := HE.out
              have hq0 : (0 : Int) ≤ (q : Int) := Int.natCast_nonneg _
              go_wp2_with fail
              go_meet
              exact ⟨by rw [HE.out]; go_num, rfl⟩
            case rest =>
            obtain ⟨rfl, rfl⟩ := hcut
            go_upto_region 21 with fail
            go_cut [19] (fun v wx => ∃ ah : Bool, v = .bool ah ∧ Hid (ah = true ↔ e ≤ k) ∧ wx = wc)
            case first =>
              by_cases hek : e ≤ k
              · go_wp2_with fail
                go_meet
                exact ⟨true, by simp [hek], by show _ ↔ _; simp [hek], rfl⟩
              · go_wp2_with fail
                go_meet
                exact ⟨false, by simp [hek], by show _ ↔ _; simp [hek], rfl⟩
            case rest =>
            obtain ⟨ah, rfl, HAH, rfl⟩ := hcut
            go_upto_region 22 with fail
            go_cut [127] (fun v wx => ∃ tb : Bool, v = .bool tb ∧ Hid (tb = true ↔ (k + mp ≤ at_ ∧ mb = false)) ∧ wx = wc)
            case first =>
              by_cases hge : k + mp ≤ at_
              · cases mb with
                | true => go_wp2_with fail; go_meet; exact ⟨false, rfl, by show _ ↔ _; simp, rfl⟩
                | false => go_wp2_with fail; go_meet; exact ⟨true, rfl, by show _ ↔ _; simp [hge], rfl⟩
              · go_wp2_with fail
                go_meet
                exact ⟨false, rfl, by show _ ↔ _; simp [hge], rfl⟩
            case rest =>
            obtain ⟨tb, rfl, HTB, rfl⟩ := hcut
            go_upto_if 127 with fail
            go_cut [16] (fun v wx => ∃ nb : Bool, v = .bool nb ∧ Hid (nb = true → ∃ j, at_ = (X.take j).sum + mp ∧ k + mp ≤ at_) ∧ Hid (Q wz wx))
            case first =>
              cases tb with
              | false =>
                go_wp2_with fail
                go_meet
                exact ⟨mb, rfl, HMB.out, HQr.out⟩
              | true =>
                obtain ⟨hge, hmb⟩ := HTB.out.1 rfl
                obtain ⟨pla, hpla⟩ : ∃ pla, pla + mp = at_ := ⟨at_ - mp, by omega⟩
                have HPLA := Lib.hid hpla
                have HGE := Lib.hid hge
                clear hge hmb hpla
                go_upto_region 23 with fail
                go_cut [20, 21] (fun o v wx => o = .int .i64 ((0 : Nat) : Int) ∧ v = .int .i64 (pla : Nat) ∧ wx = wc)
                case first =>
                  have hp := HPLA.out
                  go_wp2_with fail
                  go_meet
                  exact ⟨rfl, by rw [← HPLA.out]; go_num, rfl⟩
                case rest =>
                obtain ⟨rfl, rfl, rfl⟩ := hcut
                have hpm : pla ≤ m := by have := HPLA.out; omega
                have HXW : Hid (SeesP wc (· < wc.heap.size) xA (X.map I64)) := Lib.hid (HSXz.out.on HQr.out)
                go_wp2_with fail
                go_loop [20, 22] (fun ov jv => ∃ j o : Nat, j ≤ nx ∧ jv = .int .i64 j ∧ ov = .int .i64 o ∧ Hid (o = (X.take j).sum)) (fun _ jv => nx - (intOf jv).toNat)
                case atStart => exact ⟨0, 0, by omega, rfl, rfl, by show _ = _; simp⟩
                case round =>
                  obtain ⟨j, o, hj, rfl, rfl, HO⟩ := hrel
                  have hom : o ≤ m := by rw [HO.out]; have := sum_take_le X j; have := HXS.out; omega
                  by_cases hlj : j < nx
                  · by_cases hop : o < pla
                    · obtain ⟨hj1, hj2, hj3, hj4⟩ := HX1.out j hlj
                      obtain ⟨xb, xo, e1, hxb, hxc⟩ := HXW.out.at_ (k := j) (u := I64 X[j]) (by simp [hj1])
                      unfold I64 at hxc
                      rw [← HO.out] at hj2
                      have HO2 := Lib.hid hj2
                      have hqm : X[j] ≤ m := by omega
                      generalize X[j] = q2 at *
                      clear hj1 hj2 hj3 hj4 hxb
                      subst e1
                      go_wp2_with fail
                      go_round
                      case rel => exact ⟨j + 1, o + q2, by omega, by go_num, by go_num, HO2.out.symm⟩
                      case measure => simp [intOf]; omega
                    · go_wp2_with fail
                      go_meet
                      exact ⟨_, rfl, Lib.hid fun h => ⟨j, by have := HPLA.out; have := HO.out; have := beq_iff_eq.1 h; omega, HGE.out⟩, HQr.out⟩
                  · go_wp2_with fail
                    go_meet
                    exact ⟨_, rfl, Lib.hid fun h => ⟨j, by have := HPLA.out; have := HO.out; have := beq_iff_eq.1 h; omega, HGE.out⟩, HQr.out⟩
            case rest =>
            obtain ⟨nb, rfl, HNB, HQn⟩ := hcut
            clear HMB HTB
            obtain ⟨wn, hwn⟩ : ∃ wn, wn = wc := ⟨_, rfl⟩
            subst hwn
            go_upto_region 29 with fail
            go_cut [161] (fun v wx => ∃ rb : Bool, v = .bool rb ∧ Hid (rb = true → ∃ j, j < nx ∧ pieceAt bl X j = pieceAt cl Y i) ∧ wx = wn)
            case first =>
              have HNJ : Hid (nb = true → ∃ j, j < nx ∧ pieceAt bl X j = pieceAt cl Y i) := Lib.hid fun h => by
                obtain ⟨j, h1, h2⟩ := HNB.out h
                obtain ⟨g1, g2, _⟩ := HMJ.out j h1 h2
                exact ⟨j, g1, g2⟩
              cases nb with
              | true =>
                have HJ := Lib.hid (HNJ.out rfl)
                clear HNJ
                cases ah with
                | true =>
                  by_cases heM2 : e < m + mp
                  · go_wp2_with fail; go_meet; exact ⟨true, rfl, Lib.hid fun _ => HJ.out, rfl⟩
                  · go_wp2_with fail; go_meet; exact ⟨true, rfl, Lib.hid fun _ => HJ.out, rfl⟩
                | false => go_wp2_with fail; go_meet; exact ⟨true, rfl, Lib.hid fun _ => HJ.out, rfl⟩
              | false =>
                clear HNJ
                cases ah with
                | true =>
                  by_cases heM2 : e < m + mp
                  · have hd : decide ((e : Int) < (m : Int) + (mp : Int)) = true := decide_eq_true (by omega)
                    have HJ : Hid (∃ j, j < nx ∧ pieceAt bl X j = pieceAt cl Y i) := Lib.hid (by
                      obtain ⟨g1, g2⟩ := HAHEAD.out i (by rw [← HNY.out]; exact hlt) (by rw [← HET.out]; exact HAH.out.1 rfl) (by rw [← HET.out]; exact heM2)
                      exact ⟨i, by rw [HNX.out]; exact g1, g2⟩)
                    go_wp2_with fail; go_meet; exact ⟨true, rfl, Lib.hid fun _ => HJ.out, rfl⟩
                  · have hd : decide ((e : Int) < (m : Int) + (mp : Int)) = false := decide_eq_false (by omega)
                    go_wp2_with fail; go_meet; exact ⟨false, by first | rfl | (rw [hd]), Lib.hid (fun h => by cases h), rfl⟩
                | false => go_wp2_with fail; go_meet; exact ⟨false, rfl, Lib.hid (fun h => by cases h), rfl⟩
            case rest =>
            obtain ⟨rb, rfl, HRB, rfl⟩ := hcut
            go_upto_if 161 with fail
            go_cut [24] (fun _ wx => Hid (Q wz wx))
            case first =>
              cases rb with
              | false => go_wp2_with fail; go_meet; exact HQn.out
              | true =>
                obtain ⟨j0, hj0, hpe⟩ := HRB.out rfl
                have HPE := Lib.hid hpe
                have HJ0 := Lib.hid hj0
                have hpl : (pieceAt cl Y i).length = e - at_ := by
                  rw [HPC.out, List.length_take, List.length_drop, HCL.out]
                  omega
                have hpb : ∀ y ∈ pieceAt cl Y i, y ≤ 255 := fun y hy => by
                  rw [HPC.out] at hy
                  exact HCB.out y (List.mem_of_mem_drop (List.mem_of_mem_take hy))
                obtain ⟨Bi, HBi⟩ : ∃ B, Hid (B = cutA C cc at_ 1) := ⟨_, Lib.hid rfl⟩
                have hsp : SeesP wc (· < wc.heap.size) Bi ((pieceAt cl Y i).map B8) := by
                  have h3 := ((HCz.out.on HQn.out).cut (c := cc) (l := at_) (s := 1) (by rw [List.length_map, HCL.out]; omega)).take (e - at_)
                  rw [Nat.mul_one, ← List.map_drop, ← List.map_take, ← HBi.out] at h3
                  rw [HPC.out]
                  exact h3
                have HOFi := Lib.hid (fun t => HOFz.out wc t Bi _ (e - at_) (cc - at_) HQn.out hsp hpb hpl (by omega))
                rw [← HPE.out, ← HGG.out] at HOFi
                obtain ⟨G0, hG0⟩ : ∃ G0, G0 = G j0 := ⟨_, rfl⟩
                rw [← hG0] at HOFi
                have lG0 : G0.length = 32 := by rw [hG0, HGG.out]; rfl
                have HG0 := Lib.hid hG0
                clear hpe hj0 hpl hpb hsp hG0
                go_wp2_with (first
                  | ((with_reducible refine gate 165 rfl ?_); go_loud (refine wpList_slice_lh rfl 22 (.tmp 162) (.tmp 163) (.tmp 164) rfl 5 Tryd.underlying22 i8 hi8 1 hz81 C (m + mp) cc rfl .i64 .i64 at_ e rfl rfl hae (by omega) ?_; rw [← HBi.out]))
                  | (go_at_call 18; go_loud ((with_reducible refine (HOFi.out _).mono ?_); rintro e w6 ⟨rfl, H6⟩))
                  | ((with_reducible refine gate 23 rfl ?_); go_loud (refine wpList_alloc_row rfl 28 rfl _ (zero32 _) 32 _ rfl zer32_get ?_; intro w7 hr7 hx7; have H7 := Lib.hid (And.intro hr7 hx7); clear hr7 hx7))
                  | ((with_reducible refine gateS rfl ?_); go_loud (refine wpList_store_all rfl 28 (.tmp 23) (.tmp 167) rfl w6.heap.size rfl _ rfl 32 info32b _ (arrO_agg _) (fun i _ => rfl) 28 _ H7.out.1 ?_; intro w8 hr8 hp8; have H8 := Lib.hid hr8; have HQ8 : Hid (Q wz w8) := Lib.hid (hp8.q (H7.out.2.q (HQn.out.trans' H6.out)) (HQn.out.trans' H6.out).size); clear hr8 hp8)))
                have HGL : Hid (∀ j, (G j).length = 32) := Lib.hid fun j => by rw [HGG.out]; rfl
                have hnl : ((List.range nx).flatMap fun q => gL (G q)).length = nx * 32 := by
                  rw [flat_len (List.range nx) (size := 32) (fun a _ => gL_len _), List.length_range]
                obtain ⟨sb, so, e1, hsb, hsc⟩ := HSZ.out (by intro h; rw [h] at hnl; have := HJ0.out; simp at hnl; omega)
                have HSC : Hid (∀ wx, Q wz wx → ∀ j, j < nx → ∀ i, i < 32 → wx.cell? ⟨sb, so + j * 32 + i, none⟩ = some (arrF (G j) i)) := Lib.hid fun wx hq j hj i hi => by
                  refine (hq.cell (p := ⟨sb, so + j * 32 + i, none⟩) hsb).trans ?_
                  rw [Nat.add_assoc]
                  refine hsc (j * 32 + i) _ ?_
                  rw [flat_at (f := fun q => gL (G q)) (size := 32) (List.range nx) (fun a _ => gL_len _) j i (by rw [List.length_range]; exact hj) hi, List.getElem_range, gL_get _ _ hi]
                subst e1
                clear hnl hsb hsc
                go_loopw [24, 25] (fun kv jv wx => ∃ (j : Nat) (kb : Bool), j ≤ nx ∧ jv = .int .i64 j ∧ kv = .bool kb ∧ Hid (j0 < j → kb = true) ∧ Hid (Q w8 wx)) (fun _ jv _ => nx - (intOf jv).toNat)
                case atStart => exact ⟨0, false, by omega, rfl, rfl, Lib.hid (fun h => by omega), Q.refl _⟩
                case round =>
                  obtain ⟨j, kb, hj, rfl, rfl, HKB, HQ8l⟩ := hrel
                  obtain ⟨wl, hwl2⟩ : ∃ wl, wl = wr := ⟨_, rfl⟩
                  subst hwl2
                  by_cases hlj : j < nx
                  · have HQl : Hid (Q wz wl) := Lib.hid (HQ8.out.trans' HQ8l.out)
                    have HR8 := Lib.hid (row_q HQ8l.out H8.out)
                    cases kb with
                    | true =>
                      go_wp2_with fail
                      go_quiet (fail)
                      go_wp2_with fail
                      go_roundw
                      case rel => exact ⟨j + 1, true, by omega, by go_num, rfl, Lib.hid fun _ => rfl, Lib.hid (HQ8l.out.drewN _)⟩
                      case measure => simp [intOf]; omega
                    | false =>
                      go_upto_region 34 with fail
                      -- REGION
                      refine wp_region_factsL (by kernel_rfl) (by kernel_rfl) (factsOf [.is (.bool false), .is (.bool false), .is (.slice (some ⟨sb, so, none⟩) nx sc), .is (.int .i64 (j : Int)), .is (.pointer (some ⟨sb, so + j * 32, none⟩)), .is (.agg (arrO (G j))), .is (.agg (arrO G0)), .is (.bool (decide (G j = G0))), .is (.bool (decide (G j = G0))), .is (.bool (decide (G j = G0)))]) (factsOf_stays _) ?_ ?_
                      · refine ⟨?_, ?_, ?_, ?_, ?_, ?_, ?_, ?_, ?_, ?_, trivial⟩
                        · intro ax wx hq hfr hd
                          have f24 : ax.tmps.getD 24 undef = .bool false := (hfr 24 (by kernel_rfl)).trans rfl
                          have e24 := (getD_form _ _).symm.trans f24
                          exact .inl ⟨wanted_free rfl, OpDoes.run (v := .bool false) (w' := wx) (by unfold execOp; simp only [Act.eval, f24, Sem.run_pure]) ⟨Below.refl _ _, rfl⟩⟩
                        · intro ax wx hq hfr hd
                          have f174 : ax.tmps.getD 174 undef = .bool false := hd 0 (by kernel_rfl) _ _ rfl rfl
                          have e174 := (getD_form _ _).symm.trans f174
                          exact .inl ⟨wanted_free rfl, OpDoes.run (v := .bool false) (w' := wx) (by unfold execOp; simp only [Act.eval, f174, Sem.run_pure]) ⟨Below.refl _ _, rfl⟩⟩
                        · intro ax wx hq hfr hd
                          have f13 : ax.tmps.getD 13 undef = .slice (some ⟨sb, so, none⟩) nx sc := (hfr 13 (by kernel_rfl)).trans rfl
                          have e13 := (getD_form _ _).symm.trans f13
                          exact .inl ⟨wanted_on rfl rfl rfl (hd 1 (by kernel_rfl) _ _ rfl rfl), OpDoes.run (v := .slice (some ⟨sb, so, none⟩) nx sc) (w' := wx) (by unfold execOp; simp only [Act.eval, f13, Sem.run_pure]) ⟨Below.refl _ _, rfl⟩⟩
                        · intro ax wx hq hfr hd
                          have f25 : ax.tmps.getD 25 undef = .int .i64 (j : Int) := (hfr 25 (by kernel_rfl)).trans rfl
                          have e25 := (getD_form _ _).symm.trans f25
                          exact .inl ⟨wanted_on rfl rfl rfl (hd 1 (by kernel_rfl) _ _ rfl rfl), OpDoes.run (v := .int .i64 (j : Int)) (w' := wx) (by unfold execOp; simp only [Act.eval, f25, Sem.run_pure]) ⟨Below.refl _ _, rfl⟩⟩
                        · intro ax wx hq hfr hd
                          have f176 : ax.tmps.getD 176 undef = .slice (some ⟨sb, so, none⟩) nx sc := hd 2 (by kernel_rfl) _ _ rfl rfl
                          have e176 := (getD_form _ _).symm.trans f176
                          have f177 : ax.tmps.getD 177 undef = .int .i64 (j : Int) := hd 3 (by kernel_rfl) _ _ rfl rfl
                          have e177 := (getD_form _ _).symm.trans f177
                          exact .inl ⟨wanted_on rfl rfl rfl (hd 1 (by kernel_rfl) _ _ rfl rfl), OpDoes.run (v := .pointer (some ⟨sb, so + j * 32, none⟩)) (w' := wx) (by unfold execOp; simp [go_sem, Act.eval, e176, e177, add_addr, hlj]) ⟨Below.refl _ _, rfl⟩⟩
                        · intro ax wx hq hfr hd
                          have f178 : ax.tmps.getD 178 undef = .pointer (some ⟨sb, so + j * 32, none⟩) := hd 4 (by kernel_rfl) _ _ rfl rfl
                          have e178 := (getD_form _ _).symm.trans f178
                          exact .inl ⟨wanted_on rfl rfl rfl (hd 1 (by kernel_rfl) _ _ rfl rfl), OpDoes.run (v := .agg (arrO (G j))) (w' := wx) (exec_load_agg 28 (.tmp 178) rfl sb (so + j * 32) f178 _ Tryd.underlying28 rfl 32 info32b (arrF (G j)) (HSC.out _ (HQl.out.trans' hq) j hlj)) ⟨Below.refl _ _, rfl⟩⟩
                        · intro ax wx hq hfr hd
                          have f23 : ax.tmps.getD 23 undef = .pointer (some ⟨w6.heap.size, 0, none⟩) := (hfr 23 (by kernel_rfl)).trans rfl
                          have e23 := (getD_form _ _).symm.trans f23
                          exact .inl ⟨wanted_on rfl rfl rfl (hd 1 (by kernel_rfl) _ _ rfl rfl), OpDoes.run (v := .agg (arrO G0)) (w' := wx) (exec_load_agg 28 (.tmp 23) rfl w6.heap.size 0 f23 _ Tryd.underlying28 rfl 32 info32b _ (row_cells (row_q hq HR8.out))) ⟨Below.refl _ _, rfl⟩⟩
                        · intro ax wx hq hfr hd
                          have f179 : ax.tmps.getD 179 undef = .agg (arrO (G j)) := hd 5 (by kernel_rfl) _ _ rfl rfl
                          have e179 := (getD_form _ _).symm.trans f179
                          have f180 : ax.tmps.getD 180 undef = .agg (arrO G0) := hd 6 (by kernel_rfl) _ _ rfl rfl
                          have e180 := (getD_form _ _).symm.trans f180
                          exact .inl ⟨wanted_on rfl rfl rfl (hd 1 (by kernel_rfl) _ _ rfl rfl), OpDoes.run (v := .bool (decide (G j = G0))) (w' := wx) (run_eql_arr _ (G j) G0 (HGL.out j) lG0 _ _ _ _ rfl f179 f180 _) ⟨Below.refl _ _, rfl⟩⟩
                        · intro ax wx hq hfr hd
                          have f175 : ax.tmps.getD 175 undef = .bool false := hd 1 (by kernel_rfl) _ _ rfl rfl
                          have e175 := (getD_form _ _).symm.trans f175
                          have f181 : ax.tmps.getD 181 undef = .bool (decide (G j = G0)) := hd 7 (by kernel_rfl) _ _ rfl rfl
                          have e181 := (getD_form _ _).symm.trans f181
                          exact .inl ⟨wanted_free rfl, OpDoes.run (v := .bool (decide (G j = G0))) (w' := wx) (by unfold execOp; simp [go_sem, Act.eval, e175, e181]) ⟨Below.refl _ _, rfl⟩⟩
                        · intro ax wx hq hfr hd
                          have f182 : ax.tmps.getD 182 undef = .bool (decide (G j = G0)) := hd 8 (by kernel_rfl) _ _ rfl rfl
                          have e182 := (getD_form _ _).symm.trans f182
                          exact .inl ⟨wanted_free rfl, OpDoes.run (v := .bool (decide (G j = G0))) (w' := wx) (by unfold execOp; simp only [Act.eval, f182, Sem.run_pure]) ⟨Below.refl _ _, rfl⟩⟩
                      · intro us wx hq hf
                        have f24 : us 24 = .bool (decide (G j = G0)) := hf 9 _ _ rfl rfl
                        have HQX := Lib.hid hq
                        clear hf hq
                        simp only [fillSlots, List.setIfInBounds_toArray, List.set_cons_succ, List.set_cons_zero, f24]
                        clear f24
                      -- DNE
                        go_wp2_with fail
                        go_roundw
                        case rel =>
                          refine ⟨j + 1, decide (G j = G0), by omega, by go_num, rfl, Lib.hid fun h => ?_, Lib.hid (HQ8l.out.trans' HQX.out)⟩
                          by_cases hj0 : j0 < j
                          · cases HKB.out hj0
                          · have : j0 = j := by omega
                            subst this
                            exact decide_eq_true HG0.out.symm
                        case measure => simp [intOf]; omega
                  · obtain rfl : nx = j := by omega
                    obtain rfl : kb = true := HKB.out HJ0.out
                    go_wp2_with fail
                    go_meet
                    exact HQ8.out.trans' HQ8l.out
            case rest =>
            clear HRB
            go_wp2_with fail
            go_roundw
            case rel =>
              refine ⟨e, i + 1, nb, by omega, by go_num, rfl, rfl, HET.out, ?_, hcut.out⟩
              exact Lib.hid fun h => by
                obtain ⟨j, h1, h2⟩ := HNB.out h
                obtain ⟨_, _, g3⟩ := HMJ.out j h1 h2
                exact ⟨j + 1, g3, by omega⟩
            case measure => simp [intOf]; omega
          · obtain rfl : ny = i := by omega
            go_wp2_with fail
            go_ret
            exact ⟨rfl, HQz.out.trans' HQr.out⟩
theorem pieces_true (A : Option Addr) (n c : Nat) (zs : List Int) (A' : Option Addr) (n' c' : Nat) (zs' : List Int) (t : Int) (_ : (Lit.int .i64 t).wf = true) (w : World) (w0 : IsRow .u8 w A n c zs) (w1 : IsRow .u8 w A' n' c' zs') (hG : Glob w) :
    Calls Tryd.prog 12 #[.slice A n c, .slice A' n' c', .int .i64 t] w fun e w' => e = .returned (.bool true) ∧ Below w.heap.size w w' := by
  obtain ⟨h1, h2, h3, h4, h5, h6⟩ := row8 w0 (min n 2000) (by omega)
  obtain ⟨k1, k2, k3, k4, k5, k6⟩ := row8 w1 (min n' 500) (by omega)
  exact pieces_walk A n c _ _ A' n' c' _ _ t w hG rfl h4 h5 h1 h2 h3 h6 rfl k4 k5 k1 k2 k3 k6
end Go.Proofs.YtcdbffgmgfblkaaDoor
