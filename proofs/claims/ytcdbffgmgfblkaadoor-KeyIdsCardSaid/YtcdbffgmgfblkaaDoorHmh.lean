/- The walk through the document's Stretch. -/
import Derived.Test.YtcdbffgmgfblkaaDoorHmg
namespace Go.Proofs.YtcdbffgmgfblkaaDoor
set_option linter.unusedVariables false
set_option linter.unusedSimpArgs false
open Go.RowKit

theorem Spr.set {w : World} {base g cap : Nat} {xs : List Value} (h : Spr w base g cap xs) {i : Nat} (hi : i < xs.length) (x : Value) : Spr (w.setCell ⟨g, i, none⟩ x) base g cap (xs.set i x) := by
  have hsz : (w.setCell ⟨g, i, none⟩ x).heap.size = w.heap.size := by simp [World.setCell]
  have hcap : i < cap := Nat.lt_of_lt_of_le hi h.le
  have hsame := World.cell?_setCell_same' w ⟨g, i, none⟩ x (h.room _ hcap).1
  have hoth : ∀ j, j ≠ i → (w.setCell ⟨g, i, none⟩ x).cell? ⟨g, j, none⟩ = w.cell? ⟨g, j, none⟩ := fun j hj => World.cell?_setCell_other w _ _ x (by intro e; injection e with _ e; exact hj e.symm)
  refine ⟨h.ge, by rw [hsz]; exact h.lt, by rw [List.length_set]; exact h.le, h.max, fun j u hu => ?_, fun j hj => ⟨?_, by rw [World.frozen?_setCell]; exact (h.room j hj).2⟩⟩
  · by_cases hij : j = i
    · subst hij
      rw [List.getElem?_set_self hi] at hu
      injection hu with hu
      rw [hsame, hu]
    · rw [List.getElem?_set_ne (fun e => hij e.symm)] at hu
      rw [hoth j hij]; exact h.at_ j u hu
  · by_cases hij : j = i
    · subst hij; rw [hsame]; rfl
    · rw [hoth j hij]; exact (h.room j hj).1
section
variable {P : Program} {w : World} {ops : Array Oper} {rest : List Oper} {o : Oper} {a : Act} {K : Exit → Act → World → Prop}
/-- []byte(s): a row of one's own. -/
theorem wpList_bytes_spr (hgd : o.guard = none) (src dst : TypeId) (x : Operand) (ho : o.op = .convert src dst x) (hs : P.underlying src = some .string) (hd : P.underlying dst = some (.slice 5)) (he : P.underlying 5 = some (.int .u8))
    (L : List Nat) (hb : ∀ x ∈ L, x ≤ 255) (hl : L.length ≤ 1000000) (hx : a.eval x = .string (strB L))
    (hw : ∀ c w', Spr w' w.heap.size w.heap.size c (L.map B8) → Q w w' → wpList P ops K rest (a.put o.dst (.slice (some ⟨w.heap.size, 0, none⟩) L.length c)) w') : wpList P ops K (o :: rest) a w := by
  obtain ⟨_, _, hr, _, hq, _⟩ := run_bytes_str (P := P) w src dst 5 (strB L) hs hd he
  have hr2 := Go.Lib.run_convert_string_bytes (P := P) w src dst 5 (strB L) hs hd he
  obtain ⟨cap, hsp, hcs, hcap⟩ := Spr.bytes (w := w) (strB L) (by rw [strB_size]; omega)
  rw [bytesOf_strB hb] at hsp
  have hq' : Q w (Go.Lib.bytesWorld w 5 (strB L)) := by
    rw [hr2] at hr
    injection hr with _ hr
    rw [hr]; exact hq
  rw [← hcap, strB_size] at hr2
  refine wpList_val (w' := Go.Lib.bytesWorld w 5 (strB L)) (v := .slice (some ⟨w.heap.size, 0, none⟩) L.length cap) hgd ?_ (hw cap _ hsp hq')
  unfold execOp
  simp only [ho, hx, Sem.run_bind, hr2, Result.andThen_ok, Sem.run_pure]
end
/-- While the document's sums are put together. -/
def mixL (X Y : List Nat) (k : Nat) : List Nat := (List.range 32).map fun i => if i < k then Y.getD i 0 ^^^ X.getD i 0 else Y.getD i 0
theorem mixL_len (X Y : List Nat) (k : Nat) : (mixL X Y k).length = 32 := by simp [mixL]
theorem mixL_get (X Y : List Nat) (k : Nat) {i : Nat} (hi : i < 32) : (mixL X Y k)[i]? = some (if i < k then Y.getD i 0 ^^^ X.getD i 0 else Y.getD i 0) := by
  unfold mixL; rw [List.getElem?_map, List.getElem?_range hi]; rfl
theorem mixL_zero (X Y : List Nat) (hY : Y.length = 32) : mixL X Y 0 = Y := by
  refine List.ext_getElem? fun i => ?_
  by_cases hi : i < 32
  · rw [mixL_get X Y 0 hi, if_neg (by omega), List.getD_eq_getElem?_getD, List.getElem?_eq_getElem (by omega)]; rfl
  · rw [List.getElem?_eq_none (by rw [mixL_len]; omega), List.getElem?_eq_none (by omega)]
theorem mixL_end (X Y : List Nat) : mixL X Y 32 = mixB X Y := by
  unfold mixL mixB
  refine List.map_congr_left fun i hi => ?_
  rw [if_pos (List.mem_range.1 hi), Nat.xor_comm]
theorem mixL_next (X Y : List Nat) {k : Nat} (hk : k < 32) {v : Value} (hv : v = B8 (Y.getD k 0 ^^^ X.getD k 0)) : ((mixL X Y k).map B8).set k v = (mixL X Y (k + 1)).map B8 := by
  refine List.ext_getElem? fun i => ?_
  by_cases hi : i < 32
  · rw [List.getElem?_map, mixL_get X Y (k + 1) hi]
    by_cases hik : i = k
    · subst hik
      rw [List.getElem?_set_self (by rw [List.length_map, mixL_len]; exact hi), if_pos (by omega), hv]; rfl
    · rw [List.getElem?_set_ne (fun e => hik e.symm), List.getElem?_map, mixL_get X Y k hi]
      by_cases hlt : i < k
      · rw [if_pos hlt, if_pos (by omega)]
      · rw [if_neg hlt, if_neg (by omega)]
  · rw [List.getElem?_eq_none (by rw [List.length_set, List.length_map, mixL_len]; omega), List.getElem?_eq_none (by rw [List.length_map, mixL_len]; omega)]

set_option maxHeartbeats 8000000 in
set_option maxRecDepth 100000 in
theorem refStretch_ok (K S : List Nat) (t : Int) (N : Nat) (w : World) (hbK : ∀ x ∈ K, x ≤ 255) (hbS : ∀ x ∈ S, x ≤ 255) (hKl : K.length ≤ 1000000) (hSl : S.length ≤ 900000) (hN : (N : Int) = max (min t 100000) 0) :
    Calls Tryd.prog 23 #[.string (strB K), .string (strB S), .int .i64 t] w fun e w' => e = .returned (.string (strB (stretch K S N))) ∧ Hid (Q w w') := by
  obtain ⟨i8, hi8, hz80, hz81, hz82⟩ := info_parts info8
  obtain ⟨q, hq⟩ : ∃ q, q = min t 100000 := ⟨_, rfl⟩
  have f15 : (if (100000 : Int) < t then (100000 : Int) else t) = q := by rw [hq]; split <;> omega
  have hqN : ∀ k : Nat, (k : Int) < q ↔ k < N := fun k => by rw [← hq] at hN; omega
  have HQN := Lib.hid hqN
  have hN5 : N ≤ 100000 := by omega
  have HBK := Lib.hid hbK
  have HBS := Lib.hid hbS
  have HKL := Lib.hid hKl
  clear hbK hbS hN hq hqN hKl
  have HKY : Hid (∀ X w1, (∀ x ∈ X, x ≤ 255) → X.length ≤ 900000 → Calls Tryd.prog 20 #[.string (strB K), .string (strB X)] w1 fun e w' => e = .returned (.string (strB (hmac K X))) ∧ Hid (Q w1 w')) := fun X w1 h1 h2 => refKeyed_ok K X HBK.out h1 HKL.out h2 w1
  go_enter Tryd.func23, Tryd.ntmps23
  go_wp2_with (go_at_call 20; (with_reducible refine (HKY.out S w HBS.out hSl).mono ?_); rintro e w1 ⟨rfl, H1⟩)
  go_loopw [7, 8] (fun x i wr => ∃ k : Nat, k ≤ N ∧ i = .int .i64 k ∧ x = .string (strB (stretch K S k)) ∧ Hid (Q w wr)) (fun _ i _ => N - (intOf i).toNat)
  case atStart => exact ⟨0, by omega, rfl, rfl, H1⟩
  case round =>
    obtain ⟨k, hk, rfl, rfl, HW⟩ := hrel
    obtain ⟨wo, rfl⟩ : ∃ wo, wo = wr := ⟨_, rfl⟩
    by_cases hkN : k < N
    · have hd : decide ((k : Int) < q) = true := by rw [decide_eq_true_iff]; exact (HQN.out k).2 hkN
      have hlt : (k : Int) < q := (HQN.out k).2 hkN
      have HNX : Hid (stretch K S (k + 1) = mixB (stretch K S k) (hmac K (stretch K S k))) := rfl
      have HXL := Lib.hid (stretch_len K S k)
      have HXB := Lib.hid (stretch_byte K S k)
      generalize stretch K S k = X at *
      have HYB := Lib.hid (hmac_byte K X)
      have HYL := Lib.hid (hmac_len K X)
      go_wp2_with (first
        | (go_at_call 20; (with_reducible refine (HKY.out X wo HXB.out (by rw [HXL.out]; omega)).mono ?_); rintro e w2 ⟨rfl, H2⟩)
        | (refine gate 23 rfl ?_; go_loud (refine wpList_bytes_spr rfl 9 22 (.tmp 22) rfl Tryd.underlying9 Tryd.underlying22 Tryd.underlying5 (hmac K X) HYB.out (by rw [HYL.out]; omega) rfl ?_; intro cb wb hs3 hq3; have H3 := Lib.hid (And.intro hs3 hq3); rw [HYL.out]; clear hs3 hq3)))
      generalize hmac K X = Y at *
      clear hd hlt
      have H03 : Hid (Spr wb w2.heap.size w2.heap.size cb ((mixL X Y 0).map B8) ∧ Q w2 wb) := by rw [mixL_zero X Y HYL.out]; exact H3.out
      go_loopw [10] (fun i wr => ∃ j : Nat, j ≤ 32 ∧ i = .int .i64 j ∧ Hid (Spr wr w2.heap.size w2.heap.size cb ((mixL X Y j).map B8) ∧ Q w2 wr)) (fun i _ => 32 - (intOf i).toNat)
      case atStart => exact ⟨0, by omega, rfl, H03.out⟩
      case round =>
        obtain ⟨j, hj, rfl, HX⟩ := hrel
        by_cases hj32 : j < 32
        · have ca := HX.out.1.at_ j (B8 (Y.getD j 0)) (by rw [List.getElem?_map, mixL_get X Y j hj32, if_neg (by omega)]; rfl)
          have fa := (HX.out.1.room j (Nat.lt_of_lt_of_le (by rw [List.length_map, mixL_len]; exact hj32) HX.out.1.le)).2
          have hidx := run_index_strB (P := Tryd.prog) 9 Tryd.underlying9 X HXB.out .i64 j (by rw [HXL.out]; exact hj32)
          have HXY : Hid (Value.int .u8 (bits .xor .u8 ((Y.getD j 0 : Nat) : Int) ((X.getD j 0 : Nat) : Int)) = B8 (Y.getD j 0 ^^^ X.getD j 0)) := congrArg _ (xor8 (getD_byte HYB.out j) (getD_byte HXB.out j)).1
          unfold B8 at ca
          obtain ⟨x, hx⟩ : ∃ x, x = X.getD j 0 := ⟨_, rfl⟩
          obtain ⟨y, hy⟩ : ∃ y, y = Y.getD j 0 := ⟨_, rfl⟩
          rw [← hy] at ca
          rw [← hx] at hidx
          have HXX := Lib.hid hx
          have HYY := Lib.hid hy
          clear hx hy
          go_wp2_with fail
          go_region
          go_wp2_with fail
          go_roundw
          case rel => exact ⟨j + 1, by omega, by go_num, by
            have h := HX.out.1.set (i := j) (by rw [List.length_map, mixL_len]; exact hj32) (.int .u8 (bits .xor .u8 (y : Int) (x : Int)))
            rw [mixL_next X Y hj32 (by rw [HXX.out, HYY.out]; exact HXY.out)] at h
            exact ⟨⟨h.ge, h.lt, h.le, h.max, h.at_, h.room⟩, ((Put.of_setCell _ _ _).q HX.out.2 (Nat.le_refl _)).drew⟩⟩
          case measure => simp [intOf]; omega
        · have hj' : j = 32 := by omega
          rw [hj', mixL_end] at HX
          have kc := run_convert_sees (P := Tryd.prog) wr 22 9 5 Tryd.underlying22 Tryd.underlying5 Tryd.underlying9 _ (some ⟨w2.heap.size, 0, none⟩) 32 cb (mixB X Y) (mixB_len X Y) HX.out.1.sees
          have HQE : Hid (Q w wr) := (HW.out.trans' H2.out).trans' HX.out.2
          clear HX hj' H03 H3
          go_wp2_with fail
          go_roundw
          case rel => exact ⟨k + 1, by omega, by go_num, by rw [HNX.out], HQE.out⟩
          case measure => simp [intOf]; omega
    · have hk' : k = N := by omega
      have hd : decide ((k : Int) < q) = false := by rw [decide_eq_false_iff_not]; exact fun h => hkN ((HQN.out k).1 h)
      have hlt : ¬ (k : Int) < q := fun h => hkN ((HQN.out k).1 h)
      have hle : q ≤ (k : Int) := by omega
      have HKK := Lib.hid hk'
      clear hk'
      go_wp2_with fail
      go_ret
      exact ⟨by rw [HKK.out]; rfl, HW.out⟩
end Go.Proofs.YtcdbffgmgfblkaaDoor
