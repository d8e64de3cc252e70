/- The walks through the laws' helpers of chapter 05: to, tame, bytes, none, cuts. -/
import Derived.Test.YtddjccjbbajgaaaCutH
import Derived.Test.YtddjccjbbajgaaaPolC
namespace Go.Proofs.Ytddjccjbbajgaaa
set_option linter.unusedVariables false
set_option linter.unusedSimpArgs false
open Go.RowKit

theorem polLen : Pol.len 17349423945073011 = 54 := by rw [← Pol.clen_eq]; decide +kernel

/-- The rule of the noughts. -/
def zeroRule : Rl := ⟨64, 100, 3, 17349423945073011⟩
theorem zeroRule_right : zeroRule.Right := ⟨by decide, by decide, by decide, by decide, by decide, by show 25 ≤ Pol.len 17349423945073011; rw [polLen]; omega⟩
theorem zero_ends (n : Nat) : zeroRule.ends (List.replicate n 0) ↔ n = 100 := by
  unfold Rl.ends
  have hm0 : zeroRule.m ≠ 0 := by decide
  rw [List.length_replicate, List.drop_replicate, roll_zeros0 _ hm0]
  simp [zeroRule]
theorem zero_sizes : zeroRule.sizes (List.replicate 250 0) = [100, 100, 50] := by
  have h1 : ∀ n, 100 ≤ n → zeroRule.pieces (List.replicate n 0) = List.replicate 100 0 :: zeroRule.pieces (List.replicate (n - 100) 0) := fun n hn => by
    have h := zeroRule.pieces_first (b := List.replicate n 0) (n := 100) (by omega) (by simpa using hn)
      (by rw [List.take_replicate, zero_ends]; omega) (fun k h1 h2 => by rw [List.take_replicate, zero_ends]; omega)
    rw [List.take_replicate, List.drop_replicate] at h
    rw [h, Nat.min_eq_left hn]
  have h2 : zeroRule.pieces (List.replicate 50 0) = [List.replicate 50 0] := zeroRule.pieces_none (by decide) (fun n h1 h2 => by
    rw [List.length_replicate] at h2
    rw [List.take_replicate, zero_ends]; omega)
  unfold Rl.sizes
  rw [h1 250 (by omega), h1 (250 - 100) (by omega), show 250 - 100 - 100 = 50 by rfl, h2]
  simp

set_option maxHeartbeats 400000 in
theorem noKnife (w : World) : Calls Try.prog 13 #[] w fun e w' => e = .returned (.pointer none) ∧ w = w' := by
  go_enter Try.func13, Try.ntmps13
  go_wp2
  go_ret
  exact ⟨rfl, rfl⟩
set_option maxHeartbeats 1000000 in
theorem lawBytes (A : Option Addr) (n c : Nat) (w : World) (hnc : n ≤ c) (hcm : c ≤ 9223372036854775807) : Calls Try.prog 10 #[.slice A n c] w fun e w' => e = .returned (.slice A (min n 2500) c) ∧ w = w' := by
  obtain ⟨i0, hi, hz0, hz1, hz2⟩ := info_parts info8
  obtain ⟨m, hm⟩ : ∃ m, m = min n 2500 := ⟨_, rfl⟩
  have hmc : m ≤ c := by omega
  rw [← hm]
  have HM := Lib.hid hm
  clear hm
  go_enter Try.func10, Try.ntmps10
  go_wp2_with (first
    | (refine gate 6 rfl ?_; refine wpList_min2 rfl (.tmp 5) (.const (.int .i64 2500)) _ rfl .i64 n 2500 m rfl rfl HM.out ?_)
    | (refine gate 7 rfl ?_; refine wpList_slice_hi rfl 25 (.tmp 3) (.tmp 6) rfl 5 Try.underlying25 i0 hi _ _ _ rfl .i64 m rfl hmc ?_))
  go_ret
  exact ⟨rfl, rfl⟩

theorem agg4 {v : Value} {f : Nat → Value} (h : AggIs v 4 f) : v = .agg #[f 0, f 1, f 2, f 3] := by
  obtain ⟨cs, rfl, h1, h2⟩ := h
  obtain ⟨l⟩ := cs
  match l, h1 with
  | [a, b, c, d], _ =>
    have e0 := h2 0 (by omega)
    have e1 := h2 1 (by omega)
    have e2 := h2 2 (by omega)
    have e3 := h2 3 (by omega)
    simp at e0 e1 e2 e3
    rw [e0, e1, e2, e3]

theorem sizeCutRule : (Try.prog.info? 33).map (·.size) = some 4 := by kernel_rfl
theorem sizeRefRule : (Try.prog.info? 24).map (·.size) = some 4 := by kernel_rfl
set_option maxHeartbeats 1000000 in
set_option maxRecDepth 100000 in
theorem lawTo (l m b : Int) (p : Nat) (w : World) : Calls Try.prog 12 #[ruleV l m b p] w fun e w' => e = .returned (ruleV l m b p) ∧ Q w w' := by
  unfold ruleV
  go_enter Try.func12, Try.ntmps12
  go_wp2
  exact bodyPost_ret (v := ruleV l m b p) (by simp [results, Try.results12, go_sem, ruleV]) rfl ⟨rfl, ((Q.refl w).alloc _).alloc _⟩

/-- The rule that tame makes. -/
def tameP (p : Nat) : Nat := if Pol.len p < 25 then 17349423945073011 else p
def tameR (l m b : Int) (p : Nat) : Rl := ⟨64 + (IntKind.u64.wrap l).toNat % 200, 64 + (IntKind.u64.wrap l).toNat % 200 + (IntKind.u64.wrap m).toNat % 400, 1 + (IntKind.u64.wrap b).toNat % 8, tameP p⟩
theorem tame_right (l m b : Int) (p : Nat) : (tameR l m b p).Right := by
  refine ⟨by simp [tameR], by simp [tameR], by simp [tameR]; omega, by simp [tameR], by simp [tameR]; omega, ?_⟩
  show 25 ≤ Pol.len (tameP p)
  unfold tameP
  split
  · rw [polLen]; omega
  · omega
theorem tame_le (l m b : Int) (p : Nat) (hp : p ≤ 18446744073709551615) : (tameR l m b p).m ≤ 18446744073709551615 := by
  show tameP p ≤ _
  unfold tameP
  split <;> omega
theorem wrap_u64 (l : Int) : ∃ u : Nat, IntKind.u64.wrap l = (u : Int) ∧ u ≤ 18446744073709551615 := by
  rw [IntKind.wrap_u64]
  obtain ⟨u, hu⟩ := Int.eq_ofNat_of_zero_le (Int.emod_nonneg l (show (18446744073709551616 : Int) ≠ 0 by omega))
  exact ⟨u, hu, by omega⟩
set_option maxHeartbeats 4000000 in
set_option maxRecDepth 100000 in
theorem lawTame (l m b : Int) (p : Nat) (w : World) (hp : p ≤ 18446744073709551615) : Calls Try.prog 18 #[ruleV l m b p] w fun e w' => e = .returned (ruleV (tameR l m b p).least (tameR l m b p).most (tameR l m b p).bits (tameR l m b p).m) ∧ Q w w' := by
  unfold tameR
  obtain ⟨u1, hu1, hv1⟩ := wrap_u64 l
  obtain ⟨u2, hu2, hv2⟩ := wrap_u64 m
  obtain ⟨u3, hu3, hv3⟩ := wrap_u64 b
  rw [hu1, hu2, hu3]
  simp only [Int.toNat_natCast]
  by_cases hl : Pol.len p < 25
  · rw [show tameP p = 17349423945073011 from if_pos hl]
    have hd : decide (((Pol.len p : Int) - 1) < 24) = true := decide_eq_true (by omega)
    unfold ruleV
    go_enter Try.func18, Try.ntmps18
    go_wp2_with (go_at_call 25; (with_reducible refine (refDeg_nat _ _ hp).mono ?_); rintro e w' ⟨rfl, hq⟩; have x0 : w'.cell? ⟨w.heap.size, 0, none⟩ = some (.int .i64 (64 + (u1 : Int) % 200)) := (by rw [hq.cell (by simp <;> omega)]; go_simp); have x1 : w'.cell? ⟨w.heap.size, 1, none⟩ = some (.int .i64 (64 + (u1 : Int) % 200 + (u2 : Int) % 400)) := (by rw [hq.cell (by simp <;> omega)]; go_simp); have x2 : w'.cell? ⟨w.heap.size, 2, none⟩ = some (.int .i64 (1 + (u3 : Int) % 8)) := (by rw [hq.cell (by simp <;> omega)]; go_simp); have x3 : w'.cell? ⟨w.heap.size, 3, none⟩ = some (.int .u64 (p : Int)) := (by rw [hq.cell (by simp <;> omega)]; go_simp); have f3 : w'.frozen? ⟨w.heap.size, 3, none⟩ = false := (by rw [hq.frozen (by simp <;> omega)]; go_simp); have y0 : w'.cell? ⟨w.heap.size + 1, 0, none⟩ = some (.int .i64 0) := (by rw [hq.cell (by simp)]; go_simp); have y1 : w'.cell? ⟨w.heap.size + 1, 1, none⟩ = some (.int .i64 0) := (by rw [hq.cell (by simp)]; go_simp); have y2 : w'.cell? ⟨w.heap.size + 1, 2, none⟩ = some (.int .i64 0) := (by rw [hq.cell (by simp)]; go_simp); have y3 : w'.cell? ⟨w.heap.size + 1, 3, none⟩ = some (.int .u64 0) := (by rw [hq.cell (by simp)]; go_simp); have g0 : w'.frozen? ⟨w.heap.size + 1, 0, none⟩ = false := (by rw [hq.frozen (by simp)]; go_simp); have g1 : w'.frozen? ⟨w.heap.size + 1, 1, none⟩ = false := (by rw [hq.frozen (by simp)]; go_simp); have g2 : w'.frozen? ⟨w.heap.size + 1, 2, none⟩ = false := (by rw [hq.frozen (by simp)]; go_simp); have g3 : w'.frozen? ⟨w.heap.size + 1, 3, none⟩ = false := (by rw [hq.frozen (by simp)]; go_simp))
    have hQ : Q w w' := (by repeat (first | exact Q.refl _ | (refine Q.setNew ?_ (by simp) _) | refine Q.step ?_ (by assumption) | apply Q.alloc) : Q w w')
    refine ret_cell Try.results18 (w.heap.size + 1) rfl _ Try.underlying24 rfl 4 sizeRefRule (fun i => if i = 0 then .int .i64 (64 + (u1 : Int) % 200) else if i = 1 then .int .i64 (64 + (u1 : Int) % 200 + (u2 : Int) % 400) else if i = 2 then .int .i64 (1 + (u3 : Int) % 8) else .int .u64 17349423945073011) (fun i hi => ?_) rfl (fun v hv => ?_)
    · match i, hi with
      | 0, _ => go_simp
      | 1, _ => go_simp
      | 2, _ => go_simp
      | 3, _ => go_simp
    · have h := agg4 hv
      simp at h
      subst h
      refine ⟨?_, ?_⟩
      · simp
      · exact ((((hQ.setNew (by simp) _).setNew (by simp) _).setNew (by simp) _).setNew (by simp) _).setNew (by simp) _
  · rw [show tameP p = p from if_neg hl]
    have hd : decide (((Pol.len p : Int) - 1) < 24) = false := decide_eq_false (by omega)
    unfold ruleV
    go_enter Try.func18, Try.ntmps18
    go_wp2_with (go_at_call 25; (with_reducible refine (refDeg_nat _ _ hp).mono ?_); rintro e w' ⟨rfl, hq⟩; have x0 : w'.cell? ⟨w.heap.size, 0, none⟩ = some (.int .i64 (64 + (u1 : Int) % 200)) := (by rw [hq.cell (by simp <;> omega)]; go_simp); have x1 : w'.cell? ⟨w.heap.size, 1, none⟩ = some (.int .i64 (64 + (u1 : Int) % 200 + (u2 : Int) % 400)) := (by rw [hq.cell (by simp <;> omega)]; go_simp); have x2 : w'.cell? ⟨w.heap.size, 2, none⟩ = some (.int .i64 (1 + (u3 : Int) % 8)) := (by rw [hq.cell (by simp <;> omega)]; go_simp); have x3 : w'.cell? ⟨w.heap.size, 3, none⟩ = some (.int .u64 (p : Int)) := (by rw [hq.cell (by simp <;> omega)]; go_simp); have f3 : w'.frozen? ⟨w.heap.size, 3, none⟩ = false := (by rw [hq.frozen (by simp <;> omega)]; go_simp); have y0 : w'.cell? ⟨w.heap.size + 1, 0, none⟩ = some (.int .i64 0) := (by rw [hq.cell (by simp)]; go_simp); have y1 : w'.cell? ⟨w.heap.size + 1, 1, none⟩ = some (.int .i64 0) := (by rw [hq.cell (by simp)]; go_simp); have y2 : w'.cell? ⟨w.heap.size + 1, 2, none⟩ = some (.int .i64 0) := (by rw [hq.cell (by simp)]; go_simp); have y3 : w'.cell? ⟨w.heap.size + 1, 3, none⟩ = some (.int .u64 0) := (by rw [hq.cell (by simp)]; go_simp); have g0 : w'.frozen? ⟨w.heap.size + 1, 0, none⟩ = false := (by rw [hq.frozen (by simp)]; go_simp); have g1 : w'.frozen? ⟨w.heap.size + 1, 1, none⟩ = false := (by rw [hq.frozen (by simp)]; go_simp); have g2 : w'.frozen? ⟨w.heap.size + 1, 2, none⟩ = false := (by rw [hq.frozen (by simp)]; go_simp); have g3 : w'.frozen? ⟨w.heap.size + 1, 3, none⟩ = false := (by rw [hq.frozen (by simp)]; go_simp))
    have hQ : Q w w' := (by repeat (first | exact Q.refl _ | (refine Q.setNew ?_ (by simp) _) | refine Q.step ?_ (by assumption) | apply Q.alloc) : Q w w')
    refine ret_cell Try.results18 (w.heap.size + 1) rfl _ Try.underlying24 rfl 4 sizeRefRule (fun i => if i = 0 then .int .i64 (64 + (u1 : Int) % 200) else if i = 1 then .int .i64 (64 + (u1 : Int) % 200 + (u2 : Int) % 400) else if i = 2 then .int .i64 (1 + (u3 : Int) % 8) else .int .u64 (p : Int)) (fun i hi => ?_) rfl (fun v hv => ?_)
    · match i, hi with
      | 0, _ => go_simp
      | 1, _ => go_simp
      | 2, _ => go_simp
      | 3, _ => go_simp
    · have h := agg4 hv
      simp at h
      subst h
      refine ⟨?_, ?_⟩
      · simp
      · exact (((hQ.setNew (by simp) _).setNew (by simp) _).setNew (by simp) _).setNew (by simp) _
theorem sees_zeros (w : World) (n : Nat) : SeesP (w.alloc (.cells (List.replicate n (Value.int .u8 0)).toArray 5)) (· < (w.alloc (.cells (List.replicate n (Value.int .u8 0)).toArray 5)).heap.size) (some ⟨w.heap.size, 0, none⟩) ((List.replicate n 0).map B8) := fun _ =>
  ⟨_, 0, rfl, by simp, fun j u hj => by
    rw [List.map_replicate, List.getElem?_replicate] at hj
    split at hj
    · rename_i hlt
      obtain rfl : B8 0 = u := by simpa using hj
      have h := (rowIs_zeros w n (.int .u8 0) 5).cell hlt
      rw [Nat.zero_add]; exact h
    · cases hj⟩
set_option maxHeartbeats 4000000 in
set_option maxRecDepth 100000 in
theorem lawCuts (w : World) : Calls Try.prog 15 #[] w fun e w' => e = .returned (.bool true) ∧ Q w w' := by
  obtain ⟨i0, hi, hz0, hz1, hz2⟩ := info_parts info8
  obtain ⟨n, hn⟩ : ∃ n, n = 250 := ⟨_, rfl⟩
  have hsz := sizes_ok zeroRule (some ⟨w.heap.size, 0, none⟩) n (List.replicate n 0) (w.alloc (.cells (List.replicate n (Value.int .u8 0)).toArray 5)) zeroRule_right (by decide) (sees_zeros w n) (fun x hx => by have := List.eq_of_mem_replicate hx; omega) (by simp; omega)
  rw [List.length_replicate] at hsz
  have hsz : Hid (Calls Try.prog 19 #[.agg #[.int .i64 64, .int .i64 100, .int .i64 3, .int .u64 17349423945073011], .slice (some ⟨w.heap.size, 0, none⟩) n n] (w.alloc (.cells (List.replicate n (Value.int .u8 0)).toArray 5))
      (fun e w' => ∃ A c, e = .returned (.tuple #[.slice A 3 c, .int .i64 0]) ∧ SeesP w' (fun b => b < w'.heap.size) A ([100, 100, 50].map I64) ∧ Q w w')) :=
    Calls.mono hsz (fun e w' ⟨v, h1, h2, h3⟩ => by
      subst hn
      rw [zero_sizes] at h2
      obtain ⟨A, c, rfl⟩ := own_form h2
      exact ⟨A, c, h1, (sees_own h2).more (fun b hb => hb.2), ((Q.refl w).alloc _).step h3⟩)
  rw [show (List.replicate n (Value.int .u8 0)).toArray = Array.replicate n (.int .u8 0) by simp] at hsz
  have hint : Hid (∀ (A : Option Addr) (c : Nat) (w1 : World) (t : TypeId), SeesP w1 (fun b => b < w1.heap.size) A ([100, 100, 50].map I64) → Calls Try.prog 21 #[.slice A 3 c, .slice (some ⟨w1.heap.size, 0, none⟩) 3 3] (w1.alloc (.cells #[.int .i64 100, .int .i64 100, .int .i64 50] t)) fun e w' => e = .returned (.bool true) ∧ Q w1 w') := fun A c w1 t hs => by
    have h := ints_nat A (some ⟨w1.heap.size, 0, none⟩) c 3 _ _ [100, 100, 50] [100, 100, 50] _ (hs.alloc (fun _ h => h) _) (SeesP.new w1 [.int .i64 100, .int .i64 100, .int .i64 50] t) (by decide) (by decide)
    exact h.mono fun e w' ⟨h1, h2⟩ => ⟨by rw [h1]; rfl, ((Q.refl w1).alloc _).step h2⟩
  have HN := Lib.hid hn
  have hn1 : n ≤ 300 := by omega
  clear hn
  go_enter Try.func15, Try.ntmps15
  go_wp2_with (first
    | (refine gate 5 rfl ?_; refine wpList_val rfl (exec_make 25 _ _ rfl 5 i0 _ Try.underlying25 hi hz0 hz1 1 hz2 rfl .i64 n (by rw [HN.out]; rfl) (by rw [HN.out]; rfl) (by omega) (by omega)) ?_)
    | (go_at_call 19; go_loud ((with_reducible refine hsz.out.mono ?_); rintro e w1 ⟨A, c, rfl, hs1, hq1⟩; have HS1 := Lib.hid hs1; clear hs1))
    | (go_at_call 21; go_loud ((with_reducible refine (hint.out A c w1 _ HS1.out).mono ?_); rintro e w2 ⟨rfl, hq2⟩)))
  go_ret
  exact ⟨rfl, hq1.step hq2⟩
end Go.Proofs.Ytddjccjbbajgaaa
