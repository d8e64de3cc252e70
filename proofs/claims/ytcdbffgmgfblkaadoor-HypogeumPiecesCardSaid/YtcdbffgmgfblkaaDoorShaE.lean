/- The walk through sum's end. -/
import Derived.Test.YtcdbffgmgfblkaaDoorShaX
import Derived.Test.YtcdbffgmgfblkaaDoorOpg
import Derived.Test.YtcdbffgmgfblkaaDoorRowS
namespace Go.Proofs.YtcdbffgmgfblkaaDoor
set_option linter.unusedVariables false
set_option linter.unusedSimpArgs false
open Go.RowKit

def zer32 : Array Value := (List.replicate 32 (.int .u8 0)).toArray
theorem zero32 (w : World) : (zeroValue 28).run Tryd.prog w = .ok (.agg zer32) w := by kernel_rfl
theorem info32b : (Tryd.prog.info? 28).map (·.size) = some 32 := by kernel_rfl
/-- An array of 32 bytes. -/
def arrF (L : List Nat) (i : Nat) : Value := B8 (L.getD i 0)
theorem zer32_get (i : Nat) (h : i < 32) : zer32[i]? = some (arrF [] i) := by
  unfold zer32
  rw [List.getElem?_toArray, List.getElem?_replicate, if_pos h]; rfl
/-- The number of bytes that a state took. -/
def cntOf (g : Nat) (w : World) : Nat := match w.cell? ⟨g, 72, none⟩ with | some v => (intOf v).toNat | none => 0
theorem StHas.cnt {w : World} {g : Nat} {L : List Nat} (h : StHas w g L) : w.cell? ⟨g, 72, none⟩ = some (.int .i64 (L.length : Int)) := by
  obtain ⟨wt, h1, _⟩ := h
  have := h1.cell (i := 72) (by omega)
  rwa [stF_n] at this
theorem cntOf_has {w : World} {g : Nat} {L : List Nat} (h : StHas w g L) : cntOf g w = L.length := by
  unfold cntOf; rw [h.cnt]; simp [intOf]
theorem take_new (g x : Nat) (hx : x ≤ 255) (L : List Nat) (w : World) (h : StHas w g L) (hS : Steps w) (hg : 1 < g) (hlen : L.length ≤ 999999999999) (z : Int) (hz : z = (x : Int)) :
    Calls Tryd.prog 40 #[.pointer (some ⟨g, 0, none⟩), .slice (some ⟨w.heap.size, 0, none⟩) 1 1] (w.alloc (.cells #[.int .u8 z] 5)) fun e w' => e = .returned (.tuple #[]) ∧ Hid (StHas w' g (L ++ [x]) ∧ Only (fun k => k = g) w w') := by
  subst hz
  have hq : Q w (w.alloc (.cells #[.int .u8 (x : Int)] 5)) := (Q.refl w).alloc _
  have hglt : g < w.heap.size := by obtain ⟨wt, h1, _⟩ := h; exact h1.lt
  refine (take_ok1 g 1 1 (some ⟨w.heap.size, 0, none⟩) L [x] (fun k => k = w.heap.size) _ (h.only (S := fun _ => False) (Only.of_q hq) id) (hS.only (S := fun _ => False) (Only.of_q hq) id (by omega)) hg (sees_new w [.int .u8 (x : Int)] 5 _ rfl) (fun b hb => by subst hb; exact ⟨by simp, by omega⟩) (by simpa using hx) rfl (by omega)).mono ?_
  rintro e w' ⟨rfl, h1⟩
  exact ⟨rfl, h1.out.1, (Only.of_q hq).trans h1.out.2⟩

theorem lenB_get (N t : Nat) (ht : t < 8) : (lenB N).take (t + 1) = (lenB N).take t ++ [N / 2 ^ (56 - 8 * t) % 256] := by
  match t, ht with
  | 0, _ => rfl
  | 1, _ => rfl
  | 2, _ => rfl
  | 3, _ => rfl
  | 4, _ => rfl
  | 5, _ => rfl
  | 6, _ => rfl
  | 7, _ => show lenB N = _; simp [lenB]

theorem outV_len (v : V8) : (outV v).length = 32 := rfl
theorem outV_next (v : V8) {k : Nat} (hk : k < 32) : ∃ y : Nat, u32v (v.l.getD (k / 4) 0) / 2 ^ (24 - 8 * (k % 4)) % 256 = (y : Int) ∧ (outV v).take (k + 1) = (outV v).take k ++ [y] := by
  have hl : k < (outV v).length := by rw [outV_len]; exact hk
  have h1 := List.take_succ_eq_append_getElem hl
  refine ⟨(outV v)[k], ?_, h1⟩
  have h2 := flat_at (f := fun x => (outW x).map B8) (size := 4) v.l (fun _ _ => rfl) (k / 4) (k % 4) (by show k / 4 < 8; omega) (by omega)
  have e : k / 4 * 4 + k % 4 = k := by omega
  have h3 : (v.l.flatMap fun x => (outW x).map B8) = (outV v).map B8 := by unfold outV; rw [List.map_flatMap]
  rw [h3, e, List.getElem?_map, List.getElem?_eq_getElem hl] at h2
  have hq : v.l.getD (k / 4) 0 = v.l[k / 4]'(by show k / 4 < 8; omega) := by rw [List.getD_eq_getElem?_getD, List.getElem?_eq_getElem (by show k / 4 < 8; omega)]; rfl
  rw [hq]
  generalize v.l[k / 4]'(by show k / 4 < 8; omega) = x at h2 ⊢
  have hr : k % 4 < 4 := by omega
  generalize k % 4 = r at h2 hr ⊢
  generalize (outV v)[k] = y at h2 ⊢
  unfold u32v
  match r, hr with
  | 0, _ => simp [outW, BitVec.toNat_ushiftRight, Nat.shiftRight_eq_div_pow, B8] at h2; rw [show (2 : Int) ^ (24 - 8 * 0) = 16777216 by decide]; omega
  | 1, _ => simp [outW, BitVec.toNat_ushiftRight, Nat.shiftRight_eq_div_pow, B8] at h2; rw [show (2 : Int) ^ (24 - 8 * 1) = 65536 by decide]; omega
  | 2, _ => simp [outW, BitVec.toNat_ushiftRight, Nat.shiftRight_eq_div_pow, B8] at h2; rw [show (2 : Int) ^ (24 - 8 * 2) = 256 by decide]; omega
  | 3, _ => simp [outW, B8] at h2; rw [show (2 : Int) ^ (24 - 8 * 3) = 1 by decide]; omega

set_option maxHeartbeats 8000000 in
set_option maxRecDepth 100000 in
theorem end_ok (g : Nat) (L : List Nat) (w : World) (h : StHas w g L) (hS : Steps w) (hg : 1 < g) (hlen : L.length ≤ 100000000000) :
    Calls Tryd.prog 41 #[.pointer (some ⟨g, 0, none⟩)] w fun e w' => ∃ V, e = .returned V ∧ Hid (AggIs V 32 (arrF (sha L)) ∧ Only (fun k => k = g) w w') := by
  obtain ⟨n, hn⟩ : ∃ n, n = L.length := ⟨_, rfl⟩
  have HN := Lib.hid hn
  have hglt : g < w.heap.size := by obtain ⟨wt, h1, _⟩ := h; exact h1.lt
  have HH := Lib.hid h
  have HS := Lib.hid hS
  rw [← hn] at hlen
  clear h hS hn
  obtain ⟨m, hm⟩ : ∃ m, m = noughts n := ⟨_, rfl⟩
  have HM := Lib.hid hm
  have hmm : ∀ j, j < m → (n + 1 + j) % 64 ≠ 56 := by intro j hj; rw [hm] at hj; unfold noughts at hj; omega
  have hm56 : (n + 1 + m) % 64 = 56 := by rw [hm]; unfold noughts; omega
  have hm64 : m < 64 := by rw [hm]; unfold noughts; omega
  have HMM := Lib.hid (And.intro hmm hm56)
  clear hm hmm hm56
  go_enter Tryd.func41, Tryd.ntmps41
  have cn0 : Hid (∀ w', Only (fun k => k = g) w w' → StHas w' g L → w'.cell? ⟨g, 72, none⟩ = some (.int .i64 (n : Int))) := fun w' _ h => by rw [HN.out]; exact h.cnt
  go_wp2_with (first
    | (refine gate 2 rfl ?_; go_loud (refine wpList_alloc_row rfl 28 rfl _ (zero32 _) 32 _ rfl zer32_get ?_; intro w1 hr1 hx1; have H1 := Lib.hid (And.intro hr1 hx1); have hq1 : Only (fun k => k = g) w w1 := Only.of_q (hx1.q (Q.refl _)); have HS1 := Lib.hid (HH.out.only (S := fun _ => False) (Only.of_q (hx1.q (Q.refl _))) id); have cn1 := cn0.out w1 hq1 HS1.out; have HT := Lib.hid (take_new g 128 (by omega) L w1 HS1.out (HS.out.only (S := fun _ => False) (Only.of_q (hx1.q (Q.refl _))) id (by omega)) hg (by rw [← HN.out]; omega) 128 rfl); clear hr1 hx1 hq1))
    | (go_at_call 40; go_loud ((with_reducible refine HT.out.mono ?_); rintro e w2 ⟨rfl, H2⟩)))
  have H02 : Hid (∃ j, j ≤ m ∧ StHas w2 g (L ++ [128] ++ List.replicate j 0) ∧ Only (fun k => k = g) w1 w2) := ⟨0, by omega, by simpa using H2.out.1, H2.out.2⟩
  have HW1 : Hid (w1.heap.size = w.heap.size + 1) := H1.out.2.size
  have hw1 : 1 < w1.heap.size := by rw [HW1.out]; omega
  have HS1' : Hid (Steps w1) := HS.out.only (S := fun _ => False) (Only.of_q (H1.out.2.q (Q.refl _))) id (by omega)
  go_loopw [16] (fun _ wr => Hid (∃ j, j ≤ m ∧ StHas wr g (L ++ [128] ++ List.replicate j 0) ∧ Only (fun k => k = g) w1 wr)) (fun _ wr => m + n + 1 - cntOf g wr)
  case atStart => exact H02.out
  case round =>
    obtain ⟨j, hjm, hst, ho⟩ := hrel.out
    have HST := Lib.hid (And.intro hst ho)
    have cn := hst.cnt
    have hll : (L ++ [128] ++ List.replicate j 0).length = n + 1 + j := by rw [List.length_append, List.length_append, List.length_replicate, HN.out]; rfl
    rw [hll] at cn
    have HLL := Lib.hid hll
    obtain ⟨q, hq⟩ : ∃ q, q = n + 1 + j := ⟨_, rfl⟩
    rw [← hq] at cn
    have HQ := Lib.hid hq
    have hq1 : q ≤ 200000000000 := by omega
    clear hst ho hll hq
    by_cases hj : j < m
    · have hne : (((q : Int) % 64) == 56) = false := beq_eq_false_iff_ne.2 (by have := HMM.out.1 j hj; have := HQ.out; omega)
      have hne' : (((q : Int) % 64) != 56) = true := bne_iff_ne.2 (by have := HMM.out.1 j hj; have := HQ.out; omega)
      have HT2 := Lib.hid (take_new g 0 (by omega) _ wr HST.out.1 (HS1'.out.only HST.out.2 (by show ¬ 1 = g; omega) (by omega)) hg (by rw [HLL.out]; omega) 0 rfl)
      go_wp2_with (go_at_call 40; go_loud ((with_reducible refine HT2.out.mono ?_); rintro e w3 ⟨rfl, H3⟩))
      have HREL : Hid (∃ j, j ≤ m ∧ StHas w3 g (L ++ [128] ++ List.replicate j 0) ∧ Only (fun k => k = g) w1 w3) := ⟨j + 1, hj, by rw [List.replicate_succ', ← List.append_assoc]; exact H3.out.1, HST.out.2.trans H3.out.2⟩
      go_roundw
      case rel => first | exact HREL | ((repeat apply Exists.intro); exact ⟨HREL, rfl⟩)
      case measure =>
        have e1 := cntOf_has HST.out.1
        have e2 := cntOf_has H3.out.1
        rw [List.length_append, List.length_singleton] at e2
        rw [HLL.out] at e1 e2
        omega
    · have hjm' : j = m := by omega
      have heq : (((q : Int) % 64) == 56) = true := beq_iff_eq.2 (by have := HMM.out.2; have := HQ.out; omega)
      have heq' : (((q : Int) % 64) != 56) = false := by rw [bne_eq_false_iff_eq]; have := HMM.out.2; have := HQ.out; omega
      have HP : Hid (StHas wr g (L ++ [128] ++ List.replicate (noughts n) 0)) := by have h := HST.out.1; rw [hjm', HM.out] at h; exact h
      clear hjm'
      have hst2 := HST.out.2
      have HO1 := Lib.hid hst2
      clear hst2 HST HLL hrel
      go_wp2_with fail
      clear cn
      obtain ⟨P, hP⟩ : ∃ P, P = L ++ [128] ++ List.replicate (noughts n) 0 := ⟨_, rfl⟩
      have HPP := Lib.hid hP
      rw [← hP] at HP
      have hpl : P.length ≤ 200000000000 := by rw [hP]; have := HN.out; rw [List.length_append, List.length_append, List.length_replicate]; have : noughts n < 64 := Nat.mod_lt _ (by omega); simp only [List.length_singleton]; omega
      have HPL := Lib.hid hpl
      clear hP hpl
      have H03 : Hid (StHas wr g (P ++ (lenB (8 * n)).take 0) ∧ Only (fun k => k = g) w1 wr) := ⟨by simpa using HP.out, HO1.out⟩
      go_loopw [4] (fun s wr => ∃ t : Nat, t ≤ 8 ∧ s = .int .i64 (56 - 8 * (t : Int)) ∧ Hid (StHas wr g (P ++ (lenB (8 * n)).take t) ∧ Only (fun k => k = g) w1 wr)) (fun s _ => (intOf s + 8).toNat)
      case atStart => exact ⟨0, by omega, rfl, H03.out⟩
      case round =>
        obtain ⟨t, ht, rfl, HT3⟩ := hrel
        by_cases ht8 : t < 8
        · have hy := lenB_get (8 * n) t ht8
          have hyI : (n : Int) * 8 / 2 ^ (56 - 8 * t) % 256 = (((8 * n) / 2 ^ (56 - 8 * t) % 256 : Nat) : Int) := by push_cast; rw [Int.mul_comm]
          obtain ⟨y, hyy⟩ : ∃ y, y = (8 * n) / 2 ^ (56 - 8 * t) % 256 := ⟨_, rfl⟩
          rw [← hyy] at hy hyI
          have hy255 : y ≤ 255 := by rw [hyy]; omega
          have hpt : (P ++ (lenB (8 * n)).take t).length ≤ 300000000000 := by rw [List.length_append, List.length_take]; have := HPL.out; have : (lenB (8 * n)).length = 8 := rfl; omega
          have HTK := Lib.hid (take_new g y hy255 _ wr HT3.out.1 (HS1'.out.only HT3.out.2 (by show ¬ 1 = g; omega) hw1) hg (by omega) ((n : Int) * 8 / 2 ^ (56 - 8 * t) % 256) hyI)
          have HY := Lib.hid hy
          clear hy hyI hyy hpt
          go_wp2_with (go_at_call 40; go_loud ((with_reducible refine HTK.out.mono ?_); rintro e w3 ⟨rfl, H3⟩))
          go_roundw
          case rel => exact ⟨t + 1, by omega, by go_num, by rw [HY.out, ← List.append_assoc]; exact H3.out.1, HT3.out.2.trans H3.out.2⟩
          case measure => simp [intOf]; omega
        · have ht8' : t = 8 := by omega
          have HF : Hid (StHas wr g (padded L) ∧ Only (fun k => k = g) w1 wr) := by
            have h1 := HT3.out
            rw [ht8', List.take_of_length_le (by show 8 ≤ 8; omega), HPP.out, HN.out] at h1
            exact h1
          clear ht8' HT3
          obtain ⟨wo, rfl⟩ : ∃ wo : World, wo = wr := ⟨_, rfl⟩
          go_wp2_with (refine gate 5 rfl ?_; go_loud (refine wpList_alloc_row rfl 28 rfl _ (zero32 _) 32 _ rfl zer32_get ?_; intro w4 hr4 hx4; have H4 := Lib.hid (And.intro hr4 hx4); clear hr4 hx4))
          obtain ⟨wt, hst, _, _⟩ := HF.out.1
          have HRW : Hid (wo.rowIs g 84 73 (stF (feeds (padded L)).1 wt (padded L).length)) := hst
          clear hst
          have H05 : Hid (Q wo w4 ∧ w4.rowIs wo.heap.size 28 32 (arrF ((outV (feeds (padded L)).1).take 0))) := ⟨H4.out.2.q (Q.refl _), H4.out.1⟩
          go_loopw [36] (fun i wr => ∃ k : Nat, k ≤ 32 ∧ i = .int .i64 k ∧ Hid (Q wo wr ∧ wr.rowIs wo.heap.size 28 32 (arrF ((outV (feeds (padded L)).1).take k)))) (fun i _ => 32 - (intOf i).toNat)
          case atStart => exact ⟨0, by omega, rfl, H05.out⟩
          case round =>
            obtain ⟨k, hk, rfl, HX⟩ := hrel
            by_cases hk32 : k < 32
            · have cr := (row_q HX.out.1 HRW.out).cell (i := k / 4) (by omega)
              rw [stF_r _ _ _ _ (by omega)] at cr
              have co := HX.out.2.cell (i := k) hk32
              have z := HX.out.2.frozen k
              obtain ⟨y, hy, hyt⟩ := outV_next (feeds (padded L)).1 hk32
              have HYT := Lib.hid hyt
              generalize (feeds (padded L)).1.l.getD (k / 4) 0 = xw at *
              clear hyt
              have HROW : Hid ((wr.setCell ⟨wo.heap.size, k, none⟩ (.int .u8 (u32v xw / 2 ^ (24 - 8 * (k % 4)) % 256))).rowIs wo.heap.size 28 32 (arrF ((outV (feeds (padded L)).1).take (k + 1)))) := by
                rw [hy]
                exact (HX.out.2.set k (.int .u8 (y : Int))).congr fun i hi => by
                  unfold arrF
                  rw [HYT.out, getD_snoc, List.length_take, outV_len]
                  by_cases h : i = k
                  · rw [if_pos h, if_pos (by omega)]; rfl
                  · rw [if_neg h, if_neg (by omega)]
              clear hy
              go_wp2_with fail
              go_roundw
              case rel => exact ⟨k + 1, by omega, by go_num, HX.out.1.setNew (p := ⟨wo.heap.size, k, none⟩) (Nat.le_refl _) _, HROW.out⟩
              case measure => simp [intOf]; omega
            · have hk32' : k = 32 := by omega
              have HXR : Hid (Q wo wr ∧ wr.rowIs wo.heap.size 28 32 (arrF (sha L))) := by
                have h1 := HX.out
                rw [hk32', List.take_of_length_le (by rw [outV_len]; omega)] at h1
                exact h1
              clear hk32' HX H05
              have HB0 : Hid (wr.rowIs w.heap.size 28 32 (arrF [])) := (HXR.out.1 |> fun hq => row_q hq (HF.out.2.row H1.out.1 (by show ¬ w.heap.size = g; omega)))
              have HOW : Hid (Only (fun k => k = g) w wr) := ((Only.of_q (H1.out.2.q (Q.refl _))).trans HF.out.2).trans (Only.of_q HXR.out.1)
              go_wp2_with (first
                | (refine gate 55 rfl ?_; go_loud (refine wpList_load_agg rfl 28 (.tmp 5) rfl wo.heap.size 0 rfl _ Tryd.underlying28 rfl 32 info32b _ (row_cells HXR.out.2) ?_; intro V hV; have HV := Lib.hid hV; clear hV))
                | (refine wpList_store_all rfl 28 (.tmp 2) (.tmp 55) rfl w.heap.size rfl V rfl 32 info32b (arrF (sha L)) HV.out (fun i _ => rfl) 28 _ HB0.out ?_; intro w6 hr6 hp6; have H6 := Lib.hid (And.intro hr6 hp6); clear hr6 hp6))
              refine ret_cell rfl w.heap.size rfl _ Tryd.underlying28 rfl 32 info32b (arrF (sha L)) (row_cells H6.out.1) rfl (fun v hv => ⟨v, rfl, hv, ?_⟩)
              exact HOW.out.through (Only.put (S := fun k => k = w.heap.size) (Only.refl _ _) H6.out.2 rfl) (fun k hk => .inr (Nat.le_of_eq hk.symm))
end Go.Proofs.YtcdbffgmgfblkaaDoor
