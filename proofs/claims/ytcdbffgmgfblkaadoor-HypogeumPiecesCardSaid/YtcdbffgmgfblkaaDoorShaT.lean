/- The walk through sum's turn: a block is mixed in. -/
import Derived.Test.YtcdbffgmgfblkaaDoorShaP
import Derived.Test.YtcdbffgmgfblkaaDoorBts
import Derived.Test.YtcdbffgmgfblkaaDoorCpy
import Derived.StillTailTactics
import Derived.Deep.QuietTactic
import Derived.BigQuiet
namespace Go.Proofs.YtcdbffgmgfblkaaDoor
set_option linter.unusedVariables false
set_option linter.unusedSimpArgs false
open Go.RowKit

/-- The cells of a state: the register, what waits, how many bytes there were. -/
def stF (v : V8) (wt : Nat → Nat) (n : Nat) (i : Nat) : Value := if i < 8 then W32 (v.l.getD i 0) else if i < 72 then B8 (wt (i - 8)) else .int .i64 (n : Int)
theorem stF_r (v : V8) (wt : Nat → Nat) (n i : Nat) (h : i < 8) : stF v wt n i = .int .u32 (u32v (v.l.getD i 0)) := if_pos h
theorem stF_w (v : V8) (wt : Nat → Nat) (n i : Nat) (h : i < 64) : stF v wt n (8 + i) = .int .u8 (wt i : Int) := by
  unfold stF
  rw [if_neg (by omega), if_pos (by omega), show 8 + i - 8 = i by omega]; rfl
theorem stF_n (v : V8) (wt : Nat → Nat) (n : Nat) : stF v wt n 72 = .int .i64 (n : Int) := rfl
def zer64 : Array Value := (List.replicate 64 (.int .u32 0)).toArray
theorem zero64 (w : World) : (zeroValue 109).run Tryd.prog w = .ok (.agg zer64) w := by kernel_rfl
theorem zer64_get (i : Nat) (h : i < 64) : zer64[i]? = some (W32 (([] : List Wd).getD i 0)) := by
  unfold zer64
  rw [List.getElem?_toArray, List.getElem?_replicate, if_pos h]; rfl
section
variable {P : Program} (t e : TypeId) (n : Nat) (ht : P.underlying t = some (.array n e)) (i : TypeInfo) (hi : P.info? e = some i) (hs : i.size = 1) (g o l : Nat)
include ht hi hs
/-- A slice of an array, from a place on. -/
theorem run_arr_lo (k : IntKind) (z : Int) (hz : z = (l : Int)) (hl : l < n) (w : World) : (Instr.sliceAt t (.pointer (some ⟨g, o, none⟩)) (some (.int k z)) none none).run P w = .ok (.slice (some ⟨g, o + l, none⟩) (n - l) (n - l)) w := by
  subst hz
  have ha : P.arrayLen t = n := by simp [Program.arrayLen, ht]
  have he : P.elem t = e := by simp [Program.elem, ht]
  rw [run_sliceAt_array_l w t _ (by rw [ha, he]; exact ht) k l (by omega) (by rw [ha]; omega), he, size_run hi w, hs, ha]
  simp only [Result.andThen, slicedAt, Int.toNat_natCast]
  rw [if_neg (by omega), Nat.mul_one]
  simp [Addr.add]
theorem run_arr_hi (k : IntKind) (z : Int) (hz : z = (l : Int)) (hl : l ≤ n) (w : World) : (Instr.sliceAt t (.pointer (some ⟨g, o, none⟩)) none (some (.int k z)) none).run P w = .ok (.slice (some ⟨g, o, none⟩) l n) w := by
  subst hz
  have ha : P.arrayLen t = n := by simp [Program.arrayLen, ht]
  have he : P.elem t = e := by simp [Program.elem, ht]
  rw [run_sliceAt_array_h w t _ (by rw [ha, he]; exact ht) k l (by omega) (by rw [ha]; omega), he, size_run hi w, hs, ha]
  simp only [Result.andThen, slicedAt, Int.toNat_natCast]
  by_cases h : n = 0
  · rw [if_pos h]; simp
  · rw [if_neg h]; simp [Addr.add]
theorem run_arr_all (w : World) : (Instr.sliceAt t (.pointer (some ⟨g, o, none⟩)) none none none).run P w = .ok (.slice (some ⟨g, o, none⟩) n n) w := by
  have ha : P.arrayLen t = n := by simp [Program.arrayLen, ht]
  have he : P.elem t = e := by simp [Program.elem, ht]
  rw [run_sliceAt_array_all w t _ (by rw [ha, he]; exact ht), he, size_run hi w, hs, ha]
  simp only [Result.andThen, slicedAt]
  by_cases h : n = 0
  · rw [if_pos h]; simp
  · rw [if_neg h]; simp [Addr.add]
end
theorem info32 : (Tryd.prog.info? 77).map (fun i => (i.zero, i.size, i.bytes)) = some (some (.int .u32 0), 1, 4) := by kernel_rfl
theorem info64 : (Tryd.prog.info? 109).map (·.size) = some 64 := by kernel_rfl
theorem Q.trans' {w w1 w2 : World} (h : Q w w1) (k : Q w1 w2) : Q w w2 := h.step k
/-- The table of the steps. -/
def Steps (w : World) : Prop := ∀ i, i < 64 → w.cell? ⟨1, i, none⟩ = some (.int .u32 (u32v (K256.getD i 0)))
/-- The block that waits. -/
def wtL (wt : Nat → Nat) : List Nat := (List.range 64).map wt
theorem wtL_get (wt : Nat → Nat) (i : Nat) (h : i < 64) : (wtL wt).getD i 0 = wt i := by
  unfold wtL
  rw [List.getD_eq_getElem?_getD, List.getElem?_map, List.getElem?_range h]; rfl

theorem getD_snoc {α : Type} (l : List α) (x d : α) (i : Nat) : (l ++ [x]).getD i d = if i = l.length then x else l.getD i d := by
  simp only [List.getD_eq_getElem?_getD]
  by_cases h : i = l.length
  · subst h; rw [if_pos rfl, List.getElem?_append_right (Nat.le_refl _)]; simp
  · rw [if_neg h]
    rcases Nat.lt_or_ge i l.length with h1 | h1
    · rw [List.getElem?_append_left h1]
    · rw [List.getElem?_append_right h1, List.getElem?_eq_none (by simp; omega), List.getElem?_eq_none h1]
/-- The words so far, and one more. -/
theorem row_next {w : World} {B k : Nat} {b : List Nat} {x : Wd} (h : w.rowIs B 109 64 (fun i => W32 ((wl b k).getD i 0))) (hw : wl b (k + 1) = wl b k ++ [x]) : (w.setCell ⟨B, k, none⟩ (.int .u32 (u32v x))).rowIs B 109 64 (fun i => W32 ((wl b (k + 1)).getD i 0)) :=
  (h.set k (.int .u32 (u32v x))).congr fun i _ => by
    rw [hw, getD_snoc, wl_len]
    split <;> rfl

/-- The register's cells. -/
def VIs (w : World) (B : Nat) (v : V8) : Prop := w.rowIs B 81 8 (fun i => W32 (v.l.getD i 0))
theorem VIs.cells {w : World} {B : Nat} {v : V8} (h : VIs w B v) : w.cell? ⟨B, 0, none⟩ = some (.int .u32 (u32v v.a)) ∧ w.cell? ⟨B, 1, none⟩ = some (.int .u32 (u32v v.b)) ∧ w.cell? ⟨B, 2, none⟩ = some (.int .u32 (u32v v.c)) ∧ w.cell? ⟨B, 3, none⟩ = some (.int .u32 (u32v v.d)) ∧
    w.cell? ⟨B, 4, none⟩ = some (.int .u32 (u32v v.e)) ∧ w.cell? ⟨B, 5, none⟩ = some (.int .u32 (u32v v.f)) ∧ w.cell? ⟨B, 6, none⟩ = some (.int .u32 (u32v v.g)) ∧ w.cell? ⟨B, 7, none⟩ = some (.int .u32 (u32v v.h)) :=
  ⟨h.cell (i := 0) (by omega), h.cell (i := 1) (by omega), h.cell (i := 2) (by omega), h.cell (i := 3) (by omega), h.cell (i := 4) (by omega), h.cell (i := 5) (by omega), h.cell (i := 6) (by omega), h.cell (i := 7) (by omega)⟩
theorem below8 {p : Nat → Prop} (h0 : p 0) (h1 : p 1) (h2 : p 2) (h3 : p 3) (h4 : p 4) (h5 : p 5) (h6 : p 6) (h7 : p 7) : ∀ i, i < 8 → p i := fun i hi => by
  match i, hi with
  | 0, _ => exact h0
  | 1, _ => exact h1
  | 2, _ => exact h2
  | 3, _ => exact h3
  | 4, _ => exact h4
  | 5, _ => exact h5
  | 6, _ => exact h6
  | 7, _ => exact h7
theorem VIs.mk' {w : World} {B : Nat} {v : V8} {f : Nat → Value} (h : w.rowIs B 81 8 f) (hf : ∀ i, i < 8 → f i = W32 (v.l.getD i 0)) : VIs w B v := h.congr hf
/-- Seven cells moved up by one. -/
theorem VIs.shift {w' : World} {B : Nat} {v : V8} {cur : Array Value} (hs : cur.size = 8) (hc : ∀ i, i < 8 → cur[i]? = some (W32 (v.l.getD i 0))) (h' : w'.heap[B]? = some (.cells (cur.toList.take 1 ++ [W32 v.a, W32 v.b, W32 v.c, W32 v.d, W32 v.e, W32 v.f, W32 v.g] ++ cur.toList.drop (1 + [W32 v.a, W32 v.b, W32 v.c, W32 v.d, W32 v.e, W32 v.f, W32 v.g].length)).toArray 81 (0, 0))) :
    VIs w' B ⟨v.a, v.a, v.b, v.c, v.d, v.e, v.f, v.g⟩ := by
  obtain ⟨l⟩ := cur
  match l, hs with
  | [x0, x1, x2, x3, x4, x5, x6, x7], _ =>
    have h0 := hc 0 (by omega)
    simp at h0
    subst h0
    exact ⟨_, h', rfl, below8 rfl rfl rfl rfl rfl rfl rfl rfl⟩
/-- The state while the register is added. -/
def mixF (v u : V8) (wt : Nat → Nat) (n k i : Nat) : Value := if i < 8 then W32 (if i < k then v.l.getD i 0 + u.l.getD i 0 else v.l.getD i 0) else stF v wt n i
theorem add_get (v u : V8) : ∀ i, i < 8 → (v.add u).l.getD i 0 = v.l.getD i 0 + u.l.getD i 0 := below8 rfl rfl rfl rfl rfl rfl rfl rfl

theorem mix_next {w : World} {g n k : Nat} {v u : V8} {wt : Nat → Nat} {x y : Wd} (h : w.rowIs g 84 73 (mixF v u wt n k)) (hk : k < 8) (hx : v.l.getD k 0 = x) (hy : u.l.getD k 0 = y) : (w.setCell ⟨g, k, none⟩ (.int .u32 (u32v (x + y)))).rowIs g 84 73 (mixF v u wt n (k + 1)) :=
  (h.set k _).congr fun i _ => by
    unfold mixF
    by_cases hik : i = k
    · subst hik
      rw [if_pos rfl, if_pos hk, if_pos (Nat.lt_succ_self _), hx, hy]; rfl
    · rw [if_neg hik]
      by_cases h8 : i < 8
      · rw [if_pos h8, if_pos h8]
        by_cases h1 : i < k
        · rw [if_pos h1, if_pos (by omega)]
        · rw [if_neg h1, if_neg (by omega)]
      · rw [if_neg h8, if_neg h8]

set_option maxHeartbeats 4000000 in
set_option maxRecDepth 100000 in
theorem turn_ok (g n : Nat) (v : V8) (wt : Nat → Nat) (w : World) (hr : w.rowIs g 84 73 (stF v wt n)) (hb : ∀ i, i < 64 → wt i ≤ 255) (hS : Steps w) (hg : 1 < g) :
    Calls Tryd.prog 52 #[.pointer (some ⟨g, 0, none⟩)] w fun e w' => e = .returned (.tuple #[]) ∧ Hid (w'.rowIs g 84 73 (stF (foldB v (wtL wt)) wt n) ∧ Only (fun k => k = g) w w') := by
  obtain ⟨i8, hi8, hz80, hz81, hz82⟩ := info_parts info8
  obtain ⟨i32, hi32, hz320, hz321, hz322⟩ := info_parts info32
  have HR := Lib.hid hr
  have HB := Lib.hid hb
  have HST := Lib.hid hS
  have hglt := hr.lt
  clear hr hb hS
  go_enter Tryd.func52, Tryd.ntmps52
  go_wp2_with (refine gate 2 rfl ?_; go_loud (refine wpList_alloc_row rfl 109 rfl _ (zero64 _) 64 _ rfl zer64_get ?_; intro w1 hr1 hx1; have H1 := Lib.hid (And.intro hr1 hx1); have hsz1 := hx1.size; clear hr1 hx1))
  have H0 : Hid (Q w w1 ∧ w1.rowIs w.heap.size 109 64 (fun i => W32 ((wl (wtL wt) 0).getD i 0))) := ⟨H1.out.2.q (Q.refl _), H1.out.1⟩
  go_loopw [15] (fun i wr => ∃ k : Nat, k ≤ 64 ∧ i = .int .i64 k ∧ Hid (Q w wr ∧ wr.rowIs w.heap.size 109 64 (fun i => W32 ((wl (wtL wt) k).getD i 0)))) (fun i _ => 64 - (intOf i).toNat)
  case atStart => exact ⟨0, by omega, rfl, H0.out⟩
  case round =>
    obtain ⟨k, hk, rfl, HW⟩ := hrel
    by_cases hk64 : k < 64
    · by_cases hk16 : k < 16
      · have hgr := row_q HW.out.1 HR.out
        have c0 := hgr.cell (i := 8 + (4 * k)) (by omega)
        have c1 := hgr.cell (i := 8 + (4 * k + 1)) (by omega)
        have c2 := hgr.cell (i := 8 + (4 * k + 2)) (by omega)
        have c3 := hgr.cell (i := 8 + (4 * k + 3)) (by omega)
        rw [stF_w v wt n _ (by omega)] at c0 c1 c2 c3
        rw [← Nat.add_assoc] at c1 c2 c3
        have z := HW.out.2.frozen k
        have cw := HW.out.2.cell (i := k) hk64
        have b0 := HB.out (4 * k) (by omega)
        have b1 := HB.out (4 * k + 1) (by omega)
        have b2 := HB.out (4 * k + 2) (by omega)
        have b3 := HB.out (4 * k + 3) (by omega)
        obtain ⟨ln, hln⟩ : ∃ ln, 64 - 4 * k = ln := ⟨_, rfl⟩
        have hsl := run_arr_lo (P := Tryd.prog) 82 5 64 Tryd.underlying82 i8 hi8 hz81 g 8 (4 * k) .i64 (4 * (k : Int)) (by omega) (by omega)
        rw [hln] at hsl
        have l0 : 0 < ln := by omega
        have l1 : (1 : Int) < (ln : Int) := by omega
        have l2 : (2 : Int) < (ln : Int) := by omega
        have l3 : (3 : Int) < (ln : Int) := by omega
        clear hln
        have HWD : Hid ((wl (wtL wt) (k + 1)) = wl (wtL wt) k ++ [wd (wt (4 * k)) (wt (4 * k + 1)) (wt (4 * k + 2)) (wt (4 * k + 3))]) := by
          show _ = _
          rw [wl]
          unfold extW wordAt
          rw [if_pos hk16, wtL_get wt _ (by omega), wtL_get wt _ (by omega), wtL_get wt _ (by omega), wtL_get wt _ (by omega)]
        generalize wt (4 * k) = x0 at *
        generalize wt (4 * k + 1) = x1 at *
        generalize wt (4 * k + 2) = x2 at *
        generalize wt (4 * k + 3) = x3 at *
        have HO := Lib.hid (wd_or b0 b1 b2 b3)
        have HBY := Lib.hid (And.intro b0 (And.intro b1 (And.intro b2 b3)))
        clear b0 b1 b2 b3
        go_wp2_with fail
        obtain ⟨b0, b1, b2, b3⟩ := HBY.out
        have q0 := u32v_by b0
        have q1 := u32v_by b1
        have q2 := u32v_by b2
        have q3 := u32v_by b3
        have s24 := u32_shlw 24 16777216 (by decide)
        have s16 := u32_shlw 16 65536 (by decide)
        have s8 := u32_shlw 8 256 (by decide)
        have so := u32_or
        clear b0 b1 b2 b3
        go_still_tail 24, (by kernel_rfl)
        clear q0 q1 q2 q3 s24 s16 s8 so
        have zz : wr.drew.frozen? ⟨w.heap.size, k, none⟩ = false := z
        have cc : wr.drew.cell? ⟨w.heap.size, k, none⟩ = some (.int .u32 (u32v ((wl (wtL wt) k).getD k 0))) := cw
        have HD : Hid (Q w wr.drew ∧ wr.drew.rowIs w.heap.size 109 64 (fun i => W32 ((wl (wtL wt) k).getD i 0))) := ⟨HW.out.1.drew, HW.out.2⟩
        change wpList _ _ _ _ _ wr.drew
        generalize wr.drew = w2 at *
        rw [HO.out]
        clear z cw c0 c1 c2 c3
        go_wp2_with fail
        go_roundw
        case rel => exact ⟨k + 1, by omega, by go_num, HD.out.1.setNew (p := ⟨w.heap.size, k, none⟩) (Nat.le_refl _) _, row_next HD.out.2 HWD.out⟩
        case measure => simp [intOf]; omega
      · have hwl := wl_len (wtL wt) k
        have cell := fun (j : Nat) (hj : j < 64) => HW.out.2.cell (i := j) hj
        have c15 := cell (k - 15) (by omega)
        have c2 := cell (k - 2) (by omega)
        have c16 := cell (k - 16) (by omega)
        have c7 := cell (k - 7) (by omega)
        have ck := cell k hk64
        have z := HW.out.2.frozen k
        have HWD : Hid ((wl (wtL wt) (k + 1)) = wl (wtL wt) k ++ [(wl (wtL wt) k).getD (k - 16) 0 + (wl (wtL wt) k).getD (k - 7) 0 + sg0 ((wl (wtL wt) k).getD (k - 15) 0) + sg1 ((wl (wtL wt) k).getD (k - 2) 0)]) := by
          show _ = _
          rw [wl]
          unfold extW
          rw [if_neg hk16]
        generalize (wl (wtL wt) k).getD (k - 15) 0 = y15 at *
        generalize (wl (wtL wt) k).getD (k - 2) 0 = y2 at *
        generalize (wl (wtL wt) k).getD (k - 16) 0 = y16 at *
        generalize (wl (wtL wt) k).getD (k - 7) 0 = y7 at *
        have d15 : wr.cell? ⟨w.heap.size, k - 15, none⟩ = some (.int .u32 (u32v y15)) := c15
        have d2 : wr.cell? ⟨w.heap.size, k - 2, none⟩ = some (.int .u32 (u32v y2)) := c2
        have d16 : wr.cell? ⟨w.heap.size, k - 16, none⟩ = some (.int .u32 (u32v y16)) := c16
        have d7 : wr.cell? ⟨w.heap.size, k - 7, none⟩ = some (.int .u32 (u32v y7)) := c7
        have hge : 16 ≤ k := by omega
        clear cell c15 c2 c16 c7 hwl
        go_wp2_with fail
        have e15 : IntKind.i64.wrap ((k : Int) - 15) = ((k - 15 : Nat) : Int) := by rw [IntWalk.i64_in _ (by omega)]; omega
        have e2 : IntKind.i64.wrap ((k : Int) - 2) = ((k - 2 : Nat) : Int) := by rw [IntWalk.i64_in _ (by omega)]; omega
        go_quiet (fail)
        clear e15 e2
        have HD : Hid (Q w (wr.drewN nq) ∧ (wr.drewN nq).rowIs w.heap.size 109 64 (fun i => W32 ((wl (wtL wt) k).getD i 0))) := ⟨HW.out.1.drewN _, HW.out.2⟩
        have f16 : (wr.drewN nq).cell? ⟨w.heap.size, k - 16, none⟩ = some (.int .u32 (u32v y16)) := d16
        have f7 : (wr.drewN nq).cell? ⟨w.heap.size, k - 7, none⟩ = some (.int .u32 (u32v y7)) := d7
        have fz : (wr.drewN nq).frozen? ⟨w.heap.size, k, none⟩ = false := z
        have fk : (wr.drewN nq).cell? ⟨w.heap.size, k, none⟩ = some (.int .u32 (u32v ((wl (wtL wt) k).getD k 0))) := ck
        clear d15 d2 d16 d7 z ck
        generalize wr.drewN nq = w3 at *
        go_wp2_with fail
        have e16 : IntKind.i64.wrap ((k : Int) - 16) = ((k - 16 : Nat) : Int) := by rw [IntWalk.i64_in _ (by omega)]; omega
        have e7 : IntKind.i64.wrap ((k : Int) - 7) = ((k - 7 : Nat) : Int) := by rw [IntWalk.i64_in _ (by omega)]; omega
        have n16 : ((k - 16 : Nat) : Int) < 64 := by omega
        have n7 : ((k - 7 : Nat) : Int) < 64 := by omega
        have sx := u32_xor
        have sa := u32_add
        have h3 := fun x => u32_shrm x 3 8 (by decide)
        have h10 := fun x => u32_shrm x 10 1024 (by decide)
        go_still_tail 29, (by kernel_rfl)
        still_call (rotS7 _ _)
        repeat still_step
        still_call (rotS18 _ _)
        repeat still_step
        still_call (rotS17 _ _)
        repeat still_step
        still_call (rotS19 _ _)
        repeat still_step
        try refine wpStill_nil ?_
        clear e16 e7 sx sa h3 h10 n16 n7
        have zz : w3.drew.frozen? ⟨w.heap.size, k, none⟩ = false := fz
        have cc : w3.drew.cell? ⟨w.heap.size, k, none⟩ = some (.int .u32 (u32v ((wl (wtL wt) k).getD k 0))) := fk
        have HD2 : Hid (Q w w3.drew ∧ w3.drew.rowIs w.heap.size 109 64 (fun i => W32 ((wl (wtL wt) k).getD i 0))) := ⟨HD.out.1.drew, HD.out.2⟩
        have HWD2 : Hid ((wl (wtL wt) (k + 1)) = wl (wtL wt) k ++ [y16 + y7 + (rotr y15 7 ^^^ rotr y15 18 ^^^ y15 >>> 3) + (rotr y2 17 ^^^ rotr y2 19 ^^^ y2 >>> 10)]) := HWD.out
        change wpList _ _ _ _ _ w3.drew
        generalize w3.drew = w4 at *
        clear fz fk f16 f7
        go_wp2_with fail
        go_roundw
        case rel => exact ⟨k + 1, by omega, by go_num, HD2.out.1.setNew (p := ⟨w.heap.size, k, none⟩) (Nat.le_refl _) _, row_next HD2.out.2 HWD2.out⟩
        case measure => simp [intOf]; omega
    · have hk64' : k = 64 := by omega
      subst hk64'
      have hgr := row_q HW.out.1 HR.out
      have ca := hgr.cell (i := 0) (by omega)
      have cb := hgr.cell (i := 1) (by omega)
      have cc := hgr.cell (i := 2) (by omega)
      have cd := hgr.cell (i := 3) (by omega)
      have ce := hgr.cell (i := 4) (by omega)
      have cf := hgr.cell (i := 5) (by omega)
      have cg := hgr.cell (i := 6) (by omega)
      have ch := hgr.cell (i := 7) (by omega)
      replace ca : wr.cell? ⟨g, 0, none⟩ = some (.int .u32 (u32v v.a)) := ca
      replace cb : wr.cell? ⟨g, 1, none⟩ = some (.int .u32 (u32v v.b)) := cb
      replace cc : wr.cell? ⟨g, 2, none⟩ = some (.int .u32 (u32v v.c)) := cc
      replace cd : wr.cell? ⟨g, 3, none⟩ = some (.int .u32 (u32v v.d)) := cd
      replace ce : wr.cell? ⟨g, 4, none⟩ = some (.int .u32 (u32v v.e)) := ce
      replace cf : wr.cell? ⟨g, 5, none⟩ = some (.int .u32 (u32v v.f)) := cf
      replace cg : wr.cell? ⟨g, 6, none⟩ = some (.int .u32 (u32v v.g)) := cg
      replace ch : wr.cell? ⟨g, 7, none⟩ = some (.int .u32 (u32v v.h)) := ch
      clear hgr
      obtain ⟨wo, rfl⟩ : ∃ wo : World, wo = wr := ⟨_, rfl⟩
      go_wp2_with (refine gate 92 rfl ?_; go_loud (refine wpList_load_agg rfl 109 (.tmp 2) rfl w.heap.size 0 rfl _ Tryd.underlying109 rfl 64 info64 _ (row_cells ((Ext.of_alloc _ _).row HW.out.2)) ?_; intro v64 hv64; have HV64 := Lib.hid hv64; clear hv64))
      have HIX : Hid (∀ k : Nat, k < 64 → ∀ W, (Instr.index 109 v64 (.int .i64 (k : Int))).run Tryd.prog W = .ok (.int .u32 (u32v ((wl (wtL wt) 64).getD k 0))) W) := fun k hk W => run_index_agg (P := Tryd.prog) 109 77 64 Tryd.underlying109 Tryd.isAgg77 i32 hi32 hz321 v64 _ HV64.out .i64 k hk W
      have H02 : Hid (Q wo (wo.alloc (.cells #[.int .u32 (u32v v.a), .int .u32 (u32v v.b), .int .u32 (u32v v.c), .int .u32 (u32v v.d), .int .u32 (u32v v.e), .int .u32 (u32v v.f), .int .u32 (u32v v.g), .int .u32 (u32v v.h)] 81)) ∧ VIs (wo.alloc (.cells #[.int .u32 (u32v v.a), .int .u32 (u32v v.b), .int .u32 (u32v v.c), .int .u32 (u32v v.d), .int .u32 (u32v v.e), .int .u32 (u32v v.f), .int .u32 (u32v v.g), .int .u32 (u32v v.h)] 81)) wo.heap.size (rnds v (wl (wtL wt) 64) 0)) :=
        ⟨(Q.refl _).alloc _, World.rowIs_alloc wo _ _ _ (below8 rfl rfl rfl rfl rfl rfl rfl rfl)⟩
      clear ca cb cc cd ce cf cg ch
      go_loopw [93] (fun i wr => ∃ k : Nat, k ≤ 64 ∧ i = .int .i64 k ∧ Hid (Q wo wr ∧ VIs wr wo.heap.size (rnds v (wl (wtL wt) 64) k))) (fun i _ => 64 - (intOf i).toNat)
      case atStart => exact ⟨0, by omega, rfl, H02.out⟩
      case round =>
        obtain ⟨k, hk, rfl, HX⟩ := hrel
        by_cases hk64 : k < 64
        · have hix := HIX.out k hk64
          have HNX : Hid (rnds v (wl (wtL wt) 64) (k + 1) = rnd (rnds v (wl (wtL wt) 64) k) (K256.getD k 0) ((wl (wtL wt) 64).getD k 0)) := rfl
          generalize rnds v (wl (wtL wt) 64) k = V at *
          generalize (wl (wtL wt) 64).getD k 0 = xk at *
          obtain ⟨va, vb, vc, vd, ve, vf, vg, vh⟩ := V
          have HST3 : Hid (wr.cell? ⟨1, k, none⟩ = some (.int .u32 (u32v (K256.getD k 0)))) := by
            show _ = _
            rw [Below.cell (p := ⟨1, k, none⟩) (HW.out.1.trans' HX.out.1) (by show 1 < w.heap.size; omega)]
            exact HST.out k hk64
          generalize K256.getD k 0 = kk at *
          have HST5' : Hid (∀ n, (wr.drewN n).cell? ⟨1, k, none⟩ = some (.int .u32 (u32v kk))) := fun _ => HST3.out
          obtain ⟨ca, cb, cc, cd, ce, cf, cg, ch⟩ := HX.out.2.cells
          simp only at ca cb cc cd ce cf cg ch
          go_wp2_with fail
          go_quiet (fail)
          have HX5 : Hid (Q wo (wr.drewN nq) ∧ VIs (wr.drewN nq) wo.heap.size ⟨va, vb, vc, vd, ve, vf, vg, vh⟩) := ⟨HX.out.1.drewN _, HX.out.2⟩
          clear ca cb cc cd ce cf cg ch
          have HST5 := Lib.hid (HST5'.out nq)
          generalize wr.drewN nq = w5 at *
          obtain ⟨ca, cb, cc, cd, ce, cf, cg, ch⟩ := HX5.out.2.cells
          simp only at ca cb cc cd ce cf cg ch
          go_wp2_with fail
          have hst := HST5.out
          have sx := u32_xor
          have sa := u32_addm
          have sn := u32_and
          go_quiet ((go_at_call 59; exact quiet_same (rot_any _ _ (by decide) _)))
          clear sx sa sn hst
          rw [u32_addm]
          generalize hT : vh + (rotr ve 6 ^^^ rotr ve 11 ^^^ rotr ve 25) + (vg ^^^ ve &&& (vf ^^^ vg)) + kk + xk = tt
          have HT : Hid (t1 ⟨va, vb, vc, vd, ve, vf, vg, vh⟩ kk xk = tt) := hT
          clear hT
          have HX6 : Hid (Q wo (w5.drewN nq) ∧ VIs (w5.drewN nq) wo.heap.size ⟨va, vb, vc, vd, ve, vf, vg, vh⟩) := ⟨HX5.out.1.drewN _, HX5.out.2⟩
          clear ca cb cc cd ce cf cg ch
          generalize w5.drewN nq = w6 at *
          obtain ⟨ca, cb, cc, cd, ce, cf, cg, ch⟩ := HX6.out.2.cells
          simp only at ca cb cc cd ce cf cg ch
          go_wp2_with fail
          have sx := u32_xor
          have sa := u32_addm
          have sn := u32_and
          have so := u32_or
          go_quiet ((go_at_call 59; exact quiet_same (rot_any _ _ (by decide) _)))
          clear sx sa sn so
          rw [u32_addm]
          generalize hU : (rotr va 2 ^^^ rotr va 13 ^^^ rotr va 22) + (va &&& vb ||| vc &&& (va ||| vb)) = uu
          have HU : Hid (bs0 va + mjz va vb vc = uu) := hU
          clear hU
          have HX7 : Hid (Q wo (w6.drewN nq) ∧ VIs (w6.drewN nq) wo.heap.size ⟨va, vb, vc, vd, ve, vf, vg, vh⟩) := ⟨HX6.out.1.drewN _, HX6.out.2⟩
          clear ca cb cc cd ce cf cg ch
          generalize w6.drewN nq = w7 at *
          obtain ⟨ca, cb, cc, cd, ce, cf, cg, ch⟩ := HX7.out.2.cells
          simp only at ca cb cc cd ce cf cg ch
          have hs1 := run_arr_lo (P := Tryd.prog) 81 77 8 Tryd.underlying81 i32 hi32 hz321 wo.heap.size 0 1 .i64 1 rfl (by omega)
          have hs2 := run_arr_hi (P := Tryd.prog) 81 77 8 Tryd.underlying81 i32 hi32 hz321 wo.heap.size 0 7 .i64 7 rfl (by omega)
          go_wp2_with fail
          go_still_tail 2, (by kernel_rfl)
          clear hs1 hs2
          have HX8 : Hid (Q wo (w7.drew) ∧ VIs (w7.drew) wo.heap.size ⟨va, vb, vc, vd, ve, vf, vg, vh⟩) := ⟨HX7.out.1.drew, HX7.out.2⟩
          clear ca cb cc cd ce cf cg ch
          change wpList _ _ _ _ _ w7.drew
          generalize w7.drew = w8 at *
          obtain ⟨ca, cb, cc, cd, ce, cf, cg, ch⟩ := HX8.out.2.cells
          simp only at ca cb cc cd ce cf cg ch
          obtain ⟨cur, hh, hcs, hcc⟩ := HX8.out.2
          refine wpList_copy_in rfl (.tmp 150) (.tmp 151) 78 78 rfl 77 Tryd.underlying78 (by kernel_rfl) wo.heap.size 1 7 7 ⟨wo.heap.size, 0, none⟩ 7 8 rfl rfl cur 81 hh [W32 va, W32 vb, W32 vc, W32 vd, W32 ve, W32 vf, W32 vg] rfl ?_ (by rw [hcs]; simp) ?_ ?_
          · intro j u hj
            rw [add_addr, Nat.zero_add]
            match j, hj with
            | 0, hj => simp at hj; subst hj; exact ca
            | 1, hj => simp at hj; subst hj; exact cb
            | 2, hj => simp at hj; subst hj; exact cc
            | 3, hj => simp at hj; subst hj; exact cd
            | 4, hj => simp at hj; subst hj; exact ce
            | 5, hj => simp at hj; subst hj; exact cf
            | 6, hj => simp at hj; subst hj; exact cg
          · intro u hu
            simp only [List.mem_cons, List.not_mem_nil, or_false] at hu
            rcases hu with rfl | rfl | rfl | rfl | rfl | rfl | rfl <;> rfl
          intro w9 h9 hp9
          have HV9 := Lib.hid (VIs.shift (v := ⟨va, vb, vc, vd, ve, vf, vg, vh⟩) hcs hcc h9)
          have HQ9 := Lib.hid (hp9.q HX8.out.1 (Nat.le_refl _))
          clear hh hcs hcc h9 hp9 ca cb cc cd ce cf cg ch
          obtain ⟨ca, cb, cc, cd, ce, cf, cg, ch⟩ := HV9.out.cells
          simp only at ca cb cc cd ce cf cg ch
          have z0 := HV9.out.frozen 0
          have z4 := HV9.out.frozen 4
          have sa := u32_addm
          go_wp2_with fail
          go_roundw
          case rel => exact ⟨k + 1, by omega, by go_num, (HQ9.out.setNew (p := ⟨wo.heap.size, 0, none⟩) (Nat.le_refl _) _).setNew (p := ⟨wo.heap.size, 4, none⟩) (Nat.le_refl _) _, by rw [HNX.out]; unfold rnd; rw [HT.out, HU.out]; exact VIs.mk' ((HV9.out.set 0 _).set 4 _) (below8 rfl rfl rfl rfl rfl rfl rfl rfl)⟩
          case measure => simp [intOf]; omega
        · have hk64' : k = 64 := by omega
          rw [hk64'] at HX
          clear hk64'
          have HG3 : Hid (wr.rowIs g 84 73 (mixF v (rnds v (wl (wtL wt) 64) 64) wt n 0)) := (row_q (HW.out.1.trans' HX.out.1) HR.out).congr fun i _ => by
            unfold mixF
            split
            · rename_i h8; rw [if_neg (by omega)]; exact (if_pos h8)
            · rfl
          have hgw : g < wo.heap.size := Nat.lt_of_lt_of_le hglt HW.out.1.size
          have HE0 : Hid (Only (fun k => k = g) w wr ∧ wr.rowIs g 84 73 (mixF v (rnds v (wl (wtL wt) 64) 64) wt n 0) ∧ VIs wr wo.heap.size (rnds v (wl (wtL wt) 64) 64)) := ⟨Only.of_q (HW.out.1.trans' HX.out.1), HG3.out, HX.out.2⟩
          have HFB : Hid (foldB v (wtL wt) = v.add (rnds v (wl (wtL wt) 64) 64)) := rfl
          generalize rnds v (wl (wtL wt) 64) 64 = U at *
          clear HX HG3 HIX H02
          go_wp2_with fail
          go_loopw [163] (fun i wr => ∃ k : Nat, k ≤ 8 ∧ i = .int .i64 k ∧ Hid (Only (fun k => k = g) w wr ∧ wr.rowIs g 84 73 (mixF v U wt n k) ∧ VIs wr wo.heap.size U)) (fun i _ => 8 - (intOf i).toNat)
          case atStart => exact ⟨0, by omega, rfl, HE0.out⟩
          case round =>
            obtain ⟨k, hk, rfl, HE⟩ := hrel
            by_cases hk8 : k < 8
            · have cg := HE.out.2.1.cell (i := k) (by omega)
              have z := HE.out.2.1.frozen k
              have cu := HE.out.2.2.cell (i := k) hk8
              replace cg : wr.cell? ⟨g, k, none⟩ = some (.int .u32 (u32v (v.l.getD k 0))) := by rw [cg]; unfold mixF; rw [if_pos hk8, if_neg (by omega)]; rfl
              replace cu : wr.cell? ⟨wo.heap.size, k, none⟩ = some (.int .u32 (u32v (U.l.getD k 0))) := cu
              generalize hx : v.l.getD k 0 = xg at *
              generalize hy : U.l.getD k 0 = xu at *
              have HXY := Lib.hid (And.intro hx hy)
              clear hx hy
              have zz : wr.drew.frozen? ⟨g, k, none⟩ = false := z
              have cc : wr.drew.cell? ⟨g, k, none⟩ = some (.int .u32 (u32v xg)) := cg
              have HD : Hid (Only (fun k => k = g) w wr.drew ∧ wr.drew.rowIs g 84 73 (mixF v U wt n k) ∧ VIs wr.drew wo.heap.size U) := ⟨HE.out.1.drew, HE.out.2.1, HE.out.2.2⟩
              go_wp2_with fail
              have sa := u32_add
              go_still_tail 13, (by kernel_rfl)
              clear sa z cg cu
              change wpList _ _ _ _ _ wr.drew
              generalize wr.drew = w5 at *
              go_wp2_with fail
              go_roundw
              case rel => exact ⟨k + 1, by omega, by go_num, HD.out.1.setCell (p := ⟨g, k, none⟩) rfl _, mix_next HD.out.2.1 hk8 HXY.out.1 HXY.out.2, HD.out.2.2.setOther (a := ⟨g, k, none⟩) (by show ¬ wo.heap.size = g; omega) _⟩
              case measure => simp [intOf]; omega
            · have hk8' : k = 8 := by omega
              subst hk8'
              go_wp2_with fail
              go_end0
              refine ⟨rfl, HE.out.2.1.congr fun i hi => ?_, HE.out.1⟩
              rw [HFB.out]
              unfold mixF stF
              by_cases h8 : i < 8
              · rw [if_pos h8, if_pos h8, if_pos h8, add_get v U i h8]
              · rw [if_neg h8, if_neg h8, if_neg h8]
end Go.Proofs.YtcdbffgmgfblkaaDoor
