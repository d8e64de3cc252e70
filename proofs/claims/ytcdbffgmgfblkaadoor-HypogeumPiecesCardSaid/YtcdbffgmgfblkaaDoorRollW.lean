/- The walks through package roll: newBase and next. -/
import Derived.Test.YtcdbffgmgfblkaaDoorPolRa
import Derived.Test.YtcdbffgmgfblkaaDoorRollA
import Derived.Test.YtcdbffgmgfblkaaDoorAgg
namespace Go.Proofs.YtcdbffgmgfblkaaDoor
set_option linter.unusedVariables false
set_option linter.unusedSimpArgs false
open Go.RowKit

def zBase : Array Value := zRow [Value.int .u64 0, Value.int .i64 0] 256 (Value.int .u64 0)
theorem zeroBase (w : World) : (zeroValue 102).run Tryd.prog w = .ok (.agg zBase) w := by kernel_rfl
theorem sizeBase : (Tryd.prog.info? 102).map (·.size) = some 258 := by kernel_rfl
theorem placesBase (w : World) (fields : Array Field) (h : Tryd.prog.underlying 102 = some (.struct fields)) :
    (fields.mapM (fun f => (do pure (f.offset, ← sizeOf f.type) : Sem (Nat × Nat)))).run Tryd.prog w = .ok #[(0, 1), (1, 1), (2, 256)] w := by
  rw [Tryd.underlying102] at h
  injection h with h
  injection h with h
  subst h
  kernel_rfl
def zBaseF (i : Nat) : Value := if i = 1 then .int .i64 0 else .int .u64 0
theorem zBase_get (i : Nat) (h : i < 258) : zBase[i]? = some (zBaseF i) := by
  rw [zBase, zRow_get _ _ _ _ h]
  unfold zBaseF
  match i with
  | 0 => rfl
  | 1 => rfl
  | i + 2 => rw [if_neg (by omega)]; rfl
theorem zBase_size : zBase.size = 258 := zRow_size _ _ _
theorem zBaseF_one (i : Nat) : (zBaseF i).oneCell' = true := by unfold zBaseF; split <;> rfl

/-- What a base of the polynomial m holds, so far as its rests are reckoned (k of them). -/
noncomputable def baseF (m k : Nat) (i : Nat) : Value :=
  if i = 0 then .int .u64 (m : Int) else if i = 1 then .int .i64 ((Pol.len m : Int) - 1) else if i < 2 + k then .int .u64 (Pol.over m (i - 2) : Nat) else .int .u64 0
theorem baseF_one (m k i : Nat) : (baseF m k i).oneCell' = true := by unfold baseF; split; rfl; split; rfl; split <;> rfl

theorem fillBase (m d : Int) : Instr.fill (fun i => (#[(0, 1), (1, 1), (2, 256)] : Array (Nat × Nat))[i]?) zBase [(0, .int .u64 m), (1, .int .i64 d)] = some (seg (seg zBase 0 #[.int .u64 m]) 1 #[.int .i64 d]) := by
  rw [fill_cons _ _ 0 _ _ 0 1 rfl rfl (by rw [zBase_size]; omega), fill_cons _ _ 1 _ _ 1 1 rfl rfl (by rw [seg_size, zBase_size]; omega), fill_nil]
  rfl
theorem baseNew (m : Nat) : AggIs (.agg (seg (seg zBase 0 #[.int .u64 (m : Int)]) 1 #[.int .i64 ((Pol.len m : Int) - 1)])) 258 (baseF m 0) := by
  refine ⟨_, rfl, by rw [seg_size, seg_size, zBase_size], fun i hi => ?_⟩
  rw [seg_get _ _ _ (by rw [seg_size, zBase_size]; simp), seg_get _ _ _ (by rw [zBase_size]; simp), zBase_get i hi]
  unfold baseF zBaseF
  match i with
  | 0 => rfl
  | 1 => rfl
  | i + 2 =>
    rw [if_neg (by simp), if_neg (by simp), if_neg (by omega), if_neg (by omega), if_neg (by omega), if_neg (by omega)]

set_option maxHeartbeats 2000000 in
set_option maxRecDepth 100000 in
theorem newBase_bad (m : Nat) (w : World) (hm : m ≤ 18446744073709551615) (hl : Pol.len m < 9) :
    Calls Tryd.prog 55 #[.int .u64 (m : Int)] w fun e w' => ∃ v f, e = .returned (.tuple #[v, .int .i64 1]) ∧ AggIs v 258 f ∧ (∀ i, (f i).oneCell' = true) ∧ Q w w' := by
  go_enter Tryd.func55, Tryd.ntmps55
  go_wp2_with (first
    | (refine gate 2 rfl ?_; refine wpList_alloc_row rfl 102 rfl _ (zeroBase _) 258 zBaseF zBase_size zBase_get ?_; intro w1 hr1 hx1)
    | (go_at_call 54; (with_reducible refine (deg_nat _ _ hm).mono ?_); rintro e w' ⟨rfl, rfl⟩)
    | (refine gate 12 rfl ?_; (refine wpList_build_struct rfl 102 _ rfl _ (zeroBase _) _ Tryd.underlying102 _ (placesBase _ _ Tryd.underlying102) [(0, .int .u64 (m : Int)), (1, .int .i64 ((Pol.len m : Int) - 1))] rfl _ (fillBase _ _) ?_); have hag := baseNew m; generalize Value.agg (seg (seg zBase 0 #[.int .u64 (m : Int)]) 1 #[.int .i64 ((Pol.len m : Int) - 1)]) = vb at hag ⊢)
    | (refine gate 4 rfl ?_; refine wpList_alloc_row rfl 102 rfl _ (zeroBase _) 258 zBaseF zBase_size zBase_get ?_; intro w2 hr2 hx2; have hne : w.heap.size ≠ w1.heap.size := (by have := hx1.size; omega))
    | (refine wpList_store_all rfl 102 (.tmp 4) (.tmp 12) rfl _ rfl _ rfl 258 sizeBase _ hag (fun i _ => baseF_one m 0 i) 102 _ hr2 ?_; intro w3 hr3 hp3; have hc1 : w3.cell? ⟨w1.heap.size, 1, none⟩ = some (.int .i64 ((Pol.len m : Int) - 1)) := hr3.cell (i := 1) (by omega))
    | (refine gate 16 rfl ?_; refine wpList_build_struct rfl 102 _ rfl _ (zeroBase _) _ Tryd.underlying102 _ (placesBase _ _ Tryd.underlying102) [] rfl zBase rfl ?_; have hag2 : AggIs (.agg zBase) 258 zBaseF := ⟨_, rfl, zBase_size, zBase_get⟩; generalize Value.agg zBase = vc at hag2 ⊢)
    | (refine wpList_store_all rfl 102 (.tmp 2) (.tmp 16) rfl _ rfl _ rfl 258 sizeBase _ hag2 (fun i _ => zBaseF_one i) 102 _ (hp3.row (hx2.row hr1) hne) ?_; intro w4 hr4 hp4))
  refine ret_cell_tmp Tryd.results55 w.heap.size rfl _ Tryd.underlying102 rfl 258 sizeBase zBaseF (row_cells hr4) rfl (fun v hv => ⟨v, zBaseF, rfl, hv, zBaseF_one, ?_⟩)
  exact hp4.q (hp3.q (hx2.q (hx1.q (Q.refl w))) (by have := hx1.size; omega)) (Nat.le_refl _)

theorem over_le (m i : Nat) (h0 : m ≠ 0) (hm : m ≤ 18446744073709551615) : Pol.over m i ≤ 18446744073709551615 := mod_le h0 hm

set_option maxHeartbeats 4000000 in
set_option maxRecDepth 100000 in
theorem newBase_ok (m : Nat) (w : World) (hm : m ≤ 18446744073709551615) (hl : 9 ≤ Pol.len m) :
    Calls Tryd.prog 55 #[.int .u64 (m : Int)] w fun e w' => ∃ v, e = .returned (.tuple #[v, .int .i64 0]) ∧ AggIs v 258 (baseF m 256) ∧ Q w w' := by
  have hl64 := Pol.len_le64 hm
  have hm0 := Lib.hid (Pol.len_pos.1 (show 0 < Pol.len m by omega))
  have hm1 : 1 ≤ m := by have := hm0.out; omega
  obtain ⟨d, hd⟩ : ∃ d, d = Pol.len m - 1 := ⟨_, rfl⟩
  have hdi : ((Pol.len m : Int) - 1) = (d : Int) := by omega
  have hd2 : 2 ^ d < 2 ^ 64 := Nat.pow_lt_pow_right (by omega) (by omega)
  have s1 : IntKind.u64.wrap (2 ^ d : Int) = ((2 ^ d : Nat) : Int) := shl_one hd2
  have hd3 : 2 ^ d ≤ 18446744073709551615 := by omega
  have hd8 : 8 ≤ d := by omega
  have hd63 : d ≤ 63 := by omega
  have HDI := Lib.hid hdi
  have HD := Lib.hid hd
  have hx0 := mod_le (a := 2 ^ d) hm0.out hm
  obtain ⟨t, ht⟩ : ∃ t, t = 2 ^ d := ⟨_, rfl⟩
  rw [← ht] at s1 hd3 hx0
  have HT := Lib.hid ht
  clear hd hdi hd2 ht
  go_enter Tryd.func55, Tryd.ntmps55
  go_wp2_with (first
    | (refine gate 2 rfl ?_; refine wpList_alloc_row rfl 102 rfl _ (zeroBase _) 258 zBaseF zBase_size zBase_get ?_; intro w1 hr1 hx1)
    | (go_at_call 54; (with_reducible refine (deg_nat _ _ hm).mono ?_); rintro e w' ⟨rfl, rfl⟩; rw [HDI.out])
    | (refine gate 12 rfl ?_; (refine wpList_build_struct rfl 102 _ rfl _ (zeroBase _) _ Tryd.underlying102 _ (placesBase _ _ Tryd.underlying102) [(0, .int .u64 (m : Int)), (1, .int .i64 (d : Int))] rfl _ (fillBase _ _) ?_); have hag := baseNew m; rw [HDI.out] at hag; generalize Value.agg (seg (seg zBase 0 #[.int .u64 (m : Int)]) 1 #[.int .i64 (d : Int)]) = vb at hag ⊢)
    | (refine gate 4 rfl ?_; refine wpList_alloc_row rfl 102 rfl _ (zeroBase _) 258 zBaseF zBase_size zBase_get ?_; intro w2 hr2 hx2; have hne : w.heap.size ≠ w1.heap.size := (by have := hx1.size; omega))
    | (refine wpList_store_all rfl 102 (.tmp 4) (.tmp 12) rfl _ rfl _ rfl 258 sizeBase _ hag (fun i _ => baseF_one m 0 i) 102 _ hr2 ?_; intro w3 hr3 hp3; have hc1 : w3.cell? ⟨w1.heap.size, 1, none⟩ = some (.int .i64 (d : Int)) := (by rw [← HDI.out]; exact hr3.cell (i := 1) (by omega)))
    | (go_at_call 62; (with_reducible refine (div_nat _ _ _ hd3 hm1 hm).mono ?_); rintro e w' ⟨rfl, rfl⟩))
  have hq3 : Q w w3 := hp3.q (hx2.q (hx1.q (Q.refl w))) (by have := hx1.size; omega)
  have hr0 : w3.rowIs w.heap.size 102 258 zBaseF := hp3.row (hx2.row hr1) hne
  have hg1 : w.heap.size ≤ w1.heap.size := by have := hx1.size; omega
  have HR3 := Lib.hid hr3
  have HR0 := Lib.hid hr0
  clear hr1 hx1 hr2 hx2 hr3 hp3 hr0 hag hc1
  generalize hgg : w1.heap.size = g at *
  clear hgg
  go_loopw [8, 26] (fun _ i wr => ∃ k : Nat, k ≤ 256 ∧ i = .int .i64 k ∧ Hid (wr.rowIs g 102 258 (baseF m k) ∧ wr.rowIs w.heap.size 102 258 zBaseF) ∧ Q w wr) (fun _ i _ => 256 - (intOf i).toNat)
  case atStart => exact ⟨0, by omega, rfl, ⟨HR3.out, HR0.out⟩, hq3⟩
  case round =>
    obtain ⟨k, hk, rfl, HH, hq⟩ := hrel
    by_cases hlt : k < 256
    · have hk64 : k ≤ 18446744073709551615 := by omega
      have hov : Hid (Pol.mod (Pol.mul k (Pol.mod t m)) m = Pol.over m k) := by show _ = _; rw [Pol.over, HT.out, HD.out]
      obtain ⟨h1, h2⟩ := HH.out
      have hc := h1.cell (i := 2 + k) (by omega)
      have hf := h1.frozen (2 + k)
      have hset : Hid ((wr.setCell ⟨g, 2 + k, none⟩ (.int .u64 (Pol.mod (Pol.mul k (Pol.mod t m)) m : Nat))).rowIs g 102 258 (baseF m (k + 1))) := by
        refine (h1.set (2 + k) (.int .u64 (Pol.mod (Pol.mul k (Pol.mod t m)) m : Nat))).congr fun i hi => ?_
        show (if i = 2 + k then _ else _) = _
        rw [hov.out]
        unfold baseF
        by_cases e : i = 2 + k
        · subst e
          rw [if_pos rfl, if_neg (by omega), if_neg (by omega), if_pos (by omega), Nat.add_sub_cancel_left]
        · rw [if_neg e]
          by_cases e0 : i = 0
          · rw [if_pos e0, if_pos e0]
          · by_cases e1 : i = 1
            · rw [if_neg e0, if_neg e0, if_pos e1, if_pos e1]
            · rw [if_neg e0, if_neg e0, if_neg e1, if_neg e1]
              by_cases e2 : i < 2 + k
              · rw [if_pos e2, if_pos (by omega)]
              · rw [if_neg e2, if_neg (by omega)]
      have h2' := Lib.hid (h2.setOther (a := ⟨g, 2 + k, none⟩) hne (.int .u64 (Pol.mod (Pol.mul k (Pol.mod t m)) m : Nat)))
      have hq' : Q w (wr.setCell ⟨g, 2 + k, none⟩ (.int .u64 (Pol.mod (Pol.mul k (Pol.mod t m)) m : Nat))) := hq.setNew hg1 _
      generalize baseF m k (2 + k) = old at *
      clear h1 h2 HH
      go_wp2_with (go_at_call 63; (with_reducible refine (mulMod_nat _ _ _ _ hk64 hx0 hm1 hm).mono ?_); rintro e w' ⟨rfl, rfl⟩)
      go_roundw
      case rel => exact ⟨k + 1, by omega, by go_num, ⟨hset.out, h2'.out⟩, hq'⟩
      case measure => simp [intOf]; omega
    · have hke : Hid (k = 256) := by show _ = _; omega
      obtain ⟨h1, h2⟩ := HH.out
      rw [hke.out] at h1
      clear HH HR3 HR0 hq3
      go_wp2_with (first
        | (refine gate 41 rfl ?_; refine wpList_load_agg rfl 102 _ rfl g 0 rfl _ Tryd.underlying102 rfl 258 sizeBase (baseF m 256) (row_cells h1) ?_; intro v hv)
        | (refine wpList_store_all rfl 102 (.tmp 2) (.tmp 41) rfl _ rfl _ rfl 258 sizeBase _ hv (fun i _ => baseF_one m 256 i) 102 _ h2 ?_; intro w4 hr4 hp4))
      refine ret_cell_tmp Tryd.results55 w.heap.size rfl _ Tryd.underlying102 rfl 258 sizeBase (baseF m 256) (row_cells hr4) rfl (fun v hv => ⟨v, rfl, hv, hp4.q hq (Nat.le_refl _)⟩)

theorem and_mask (s e : Nat) (hs : s ≤ 18446744073709551615) (he : e ≤ 63) : bits .and .u64 (s : Int) (((2 ^ e : Nat) : Int) - 1) = ((s % 2 ^ e : Nat) : Int) := by
  have h1 : 1 ≤ 2 ^ e := Nat.two_pow_pos e
  have h2 : 2 ^ e ≤ 2 ^ 63 := Nat.pow_le_pow_right (by omega) he
  have := bits_and_u64_nat s (2 ^ e - 1) (by omega) (by omega)
  rw [Nat.and_two_pow_sub_one_eq_mod, Int.natCast_sub h1] at this
  exact this

set_option maxHeartbeats 4000000 in
set_option maxRecDepth 100000 in
theorem next_nat (m s x g : Nat) (w : World) (hm : m ≤ 18446744073709551615) (hl : 9 ≤ Pol.len m) (hs : Pol.len s < Pol.len m) (hx : x ≤ 255) (hc : ∀ i, i < 258 → w.cell? ⟨g, i, none⟩ = some (baseF m 256 i)) :
    Calls Tryd.prog 56 #[.pointer (some ⟨g, 0, none⟩), .int .u64 (s : Int), .int .u8 (x : Int)] w fun e w' => e = .returned (.int .u64 (Pol.nxt m s x : Nat)) ∧ Q w w' := by
  have hl64 := Pol.len_le64 hm
  have hm0 := Pol.len_pos.1 (show 0 < Pol.len m by omega)
  have hn := Lib.hid (Pol.nxt_over hl hs (show x < 256 by omega))
  obtain ⟨e, he⟩ : ∃ e, e = Pol.len m - 1 - 8 := ⟨_, rfl⟩
  rw [← he] at hn
  have hs63 : s < 2 ^ (e + 8) := Pol.len_le.1 (by omega)
  have he55 : e ≤ 55 := by omega
  have h63 : 2 ^ (e + 8) ≤ 2 ^ 63 := Nat.pow_le_pow_right (by omega) (by omega)
  have hs64 : s ≤ 18446744073709551615 := by omega
  have hup : s / 2 ^ e < 256 := by
    rw [Nat.div_lt_iff_lt_mul (Nat.two_pow_pos e), Nat.mul_comm]
    rw [Nat.pow_add] at hs63
    exact hs63
  have c1 : w.cell? ⟨g, 1, none⟩ = some (.int .i64 ((e : Int) + 8)) := by
    rw [hc 1 (by omega)]
    show some (Value.int .i64 ((Pol.len m : Int) - 1)) = _
    congr 2
    omega
  have c2 := hc (2 + s / 2 ^ e) (by omega)
  have c2' : w.cell? ⟨g, 2 + s / 2 ^ e, none⟩ = some (.int .u64 (Pol.over m (s / 2 ^ e) : Nat)) := by
    rw [c2]
    unfold baseF
    have h2 : 2 ≤ 2 + s / 2 ^ e := Nat.le_add_right 2 _
    have n0 : ¬ (2 + s / 2 ^ e = 0) := fun h => by rw [h] at h2; exact absurd h2 (by decide)
    have n1 : ¬ (2 + s / 2 ^ e = 1) := fun h => by rw [h] at h2; exact absurd h2 (by decide)
    rw [if_neg n0, if_neg n1, if_pos (Nat.add_lt_add_left hup 2), Nat.add_sub_cancel_left]
  have e1 := shr_nat s e
  have e2 := and_mask s e hs64 (by omega)
  have e3 : IntKind.u64.wrap (2 ^ e : Int) = ((2 ^ e : Nat) : Int) := shl_one (by have : 2 ^ e ≤ 2 ^ 55 := Nat.pow_le_pow_right (by omega) he55; omega)
  have e4 : s % 2 ^ e * 2 ^ 8 < 2 ^ 63 := by
    have h1 := Nat.mod_lt s (Nat.two_pow_pos e)
    have h2 : s % 2 ^ e * 2 ^ 8 < 2 ^ e * 2 ^ 8 := Nat.mul_lt_mul_of_pos_right h1 (by decide)
    rw [← Nat.pow_add] at h2
    omega
  have hov := over_le m (s / 2 ^ e) hm0 hm
  have ht1 : 1 ≤ 2 ^ e := Nat.two_pow_pos e
  have ht2 : 2 ^ e ≤ 18446744073709551615 := by have : 2 ^ e ≤ 2 ^ 55 := Nat.pow_le_pow_right (by omega) he55; omega
  have hlow := Nat.mod_le s (2 ^ e)
  clear hs63 h63 hc c2 he
  have H1 := Lib.hid e1
  generalize hU : s / 2 ^ e = U at *
  generalize hL : s % 2 ^ e = L at *
  generalize hO : Pol.over m U = O at *
  have e1' : (s : Int) / 2 ^ e = (U : Int) := e1
  generalize hT : (2 ^ e : Nat) = T at *
  have HU := Lib.hid hU
  have HL := Lib.hid hL
  have HO := Lib.hid hO
  have HT := Lib.hid hT
  clear hU hL hO hT e1 H1
  go_enter Tryd.func56, Tryd.ntmps56
  have hL8 : L * 256 ≤ 18446744073709551615 := by omega
  have hx64 : x ≤ 18446744073709551615 := by omega
  go_wp2_with (go_at_call 64; rw [show ((L : Int) * 256) = ((L * 256 : Nat) : Int) from by omega]; (with_reducible refine (add_lit3 _ _ _ _ _ _ (by simp) hL8 hx64 hov).mono ?_); rintro e w' ⟨rfl, rfl⟩)
  go_ret
  exact ⟨by rw [← hn.out]; rfl, (Q.refl w).alloc _⟩
end Go.Proofs.YtcdbffgmgfblkaaDoor
