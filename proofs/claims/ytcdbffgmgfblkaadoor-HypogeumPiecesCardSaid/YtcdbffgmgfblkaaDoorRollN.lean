/- The walks through roll.New. -/
import Derived.Test.YtcdbffgmgfblkaaDoorRollW
import Derived.Test.YtcdbffgmgfblkaaDoorByt
import Derived.Test.YtcdbffgmgfblkaaDoorStep
namespace Go.Proofs.YtcdbffgmgfblkaaDoor
set_option linter.unusedVariables false
set_option linter.unusedSimpArgs false
open Go.RowKit

/-! the struct Roll: 517 cells: the base 0..257, the table of what leaves 258..513, the window's slice 514, its place 515, the sum 516 -/
def zRoll : Array Value := zRow2 [Value.int .u64 0, Value.int .i64 0] 512 (Value.int .u64 0) [Value.slice none 0 0, Value.int .i64 0, Value.int .u64 0]
theorem zeroRoll (w : World) : (zeroValue 106).run Tryd.prog w = .ok (.agg zRoll) w := by kernel_rfl
theorem sizeRoll : (Tryd.prog.info? 106).map (·.size) = some 517 := by kernel_rfl
theorem placesRoll (w : World) (fields : Array Field) (h : Tryd.prog.underlying 106 = some (.struct fields)) :
    (fields.mapM (fun f => (do pure (f.offset, ← sizeOf f.type) : Sem (Nat × Nat)))).run Tryd.prog w = .ok #[(0, 258), (258, 256), (514, 1), (515, 1), (516, 1)] w := by
  rw [Tryd.underlying106] at h
  injection h with h
  injection h with h
  subst h
  kernel_rfl
theorem zRoll_size : zRoll.size = 517 := zRow2_size _ _ _ _
theorem zRoll_get (i : Nat) (h : i < 517) : zRoll[i]? = some (if i = 514 then .slice none 0 0 else if i = 1 ∨ i = 515 then .int .i64 0 else .int .u64 0) := by
  rw [zRoll, zRow2_get _ _ _ _ _ h]
  congr 1
  match i, h with
  | 0, _ => rfl
  | 1, _ => rfl
  | i + 2, h =>
    rw [if_neg (by simp)]
    by_cases h1 : i < 512
    · rw [if_pos (by simp only [List.length_cons, List.length_nil]; omega), if_neg (by omega), if_neg (by omega)]
    · rw [if_neg (by simp only [List.length_cons, List.length_nil]; omega)]
      have : i = 512 ∨ i = 513 ∨ i = 514 := by omega
      rcases this with rfl | rfl | rfl <;> rfl

/-- What leaves with a byte. -/
noncomputable def outv (m N x : Nat) : Nat := Pol.roll m 0 (x :: List.replicate (N - 1) 0)
noncomputable def rollF (m N k lb at_ y i : Nat) : Value :=
  if i < 258 then baseF m 256 i else if i < 258 + k then .int .u64 (outv m N (i - 258) : Nat) else if i < 514 then .int .u64 0
  else if i = 514 then .slice (some ⟨lb, 0, none⟩) N N else if i = 515 then .int .i64 at_ else .int .u64 y
theorem rollF_one (m N k lb at_ y i : Nat) : (rollF m N k lb at_ y i).oneCell' = true := by
  unfold rollF
  split
  · exact baseF_one _ _ _
  · split; rfl; split; rfl; split; rfl; split <;> rfl

theorem fillRoll (cs : Array Value) (hcs : cs.size = 258) (s : Value) (hs : s.cells = #[s]) : Instr.fill (fun i => (#[(0, 258), (258, 256), (514, 1), (515, 1), (516, 1)] : Array (Nat × Nat))[i]?) zRoll [(0, .agg cs), (2, s)] = some (seg (seg zRoll 0 cs) 514 #[s]) := by
  rw [fill_cons _ _ 0 _ _ 0 258 rfl (by simp [Value.cells, hcs]) (by rw [zRoll_size]; omega), fill_cons _ _ 2 _ _ 514 1 rfl (by rw [hs]; rfl) (by rw [seg_size, zRoll_size]; omega), fill_nil, hs]
  rfl
theorem rollNew (m N lb : Nat) (cs : Array Value) (hv : AggIs (.agg cs) 258 (baseF m 256)) : AggIs (.agg (seg (seg zRoll 0 cs) 514 #[.slice (some ⟨lb, 0, none⟩) N N])) 517 (rollF m N 0 lb 0 0) := by
  obtain ⟨cs', e, hs, hc⟩ := hv
  injection e with e
  subst e
  refine ⟨_, rfl, by rw [seg_size, seg_size, zRoll_size], fun i hi => ?_⟩
  rw [seg_get _ _ _ (by rw [seg_size, zRoll_size]; simp), seg_get _ _ _ (by rw [zRoll_size]; omega), zRoll_get i hi, hs]
  rw [show (#[Value.slice (some ⟨lb, 0, none⟩) N N] : Array Value).size = 1 from rfl]
  unfold rollF
  by_cases h1 : i < 258
  · rw [if_neg (by omega), if_pos (by omega), if_pos h1, Nat.sub_zero, hc i h1]
  · rw [if_neg h1, if_neg (show ¬ i < 258 + 0 by omega)]
    by_cases h2 : i < 514
    · rw [if_neg (by omega), if_neg (by omega), if_neg (by omega), if_neg (by omega), if_pos h2]
    · rw [if_neg h2]
      by_cases h3 : i = 514
      · subst h3; rw [if_pos (by omega), if_pos rfl]; rfl
      · rw [if_neg (by omega), if_neg (by omega), if_neg h3, if_neg h3]
        by_cases h4 : i = 515
        · subst h4; rfl
        · rw [if_neg h4, if_neg (by omega)]; rfl

/-- A roll of the polynomial m, of N bytes, that lies in blocks r and lb; the last bytes are W. -/
structure RollHas (w : World) (r lb m N : Nat) (W : List Nat) : Prop where
  far : lb ≠ r
  has : ∃ (at_ : Nat) (ring : Nat → Nat), at_ < N ∧ w.rowIs r 106 517 (rollF m N 256 lb at_ (Pol.roll m 0 W)) ∧ w.rowIs lb 5 N (fun i => B8 (ring i)) ∧ W.length = N ∧ (∀ x ∈ W, x ≤ 255) ∧
    (∀ i, ring i ≤ 255) ∧ ∀ j, j < N → ring ((at_ + j) % N) = W.getD j 0
theorem RollHas.keep {w w' : World} {r lb m N : Nat} {W : List Nat} (h : RollHas w r lb m N W) (hr : w'.heap[r]? = w.heap[r]?) (hl : w'.heap[lb]? = w.heap[lb]?) : RollHas w' r lb m N W := by
  obtain ⟨h1, at_, ring, h2, h3, h4, h5⟩ := h
  exact ⟨h1, at_, ring, h2, h3.of_block hr, h4.of_block hl, h5⟩
theorem RollHas.lt {w : World} {r lb m N : Nat} {W : List Nat} (h : RollHas w r lb m N W) : r < w.heap.size ∧ lb < w.heap.size := by
  obtain ⟨_, at_, ring, _, h3, h4, _⟩ := h
  exact ⟨h3.lt, h4.lt⟩
theorem RollHas.q {w w' : World} {r lb m N : Nat} {W : List Nat} (h : RollHas w r lb m N W) (hq : Q w w') : RollHas w' r lb m N W := h.keep (hq.block r h.lt.1) (hq.block lb h.lt.2)
theorem RollHas.only {S : Nat → Prop} {w w' : World} {r lb m N : Nat} {W : List Nat} (h : RollHas w r lb m N W) (ho : Only S w w') (hr : ¬ S r) (hl : ¬ S lb) : RollHas w' r lb m N W := h.keep (ho.block r h.lt.1 hr) (ho.block lb h.lt.2 hl)

theorem roll_zeros0 (m : Nat) (hm : m ≠ 0) (n : Nat) : Pol.roll m 0 (List.replicate n 0) = 0 := by
  rw [Pol.roll_zeros m n 0 (by rw [Pol.len_zero]; exact Pol.len_pos.2 hm), Nat.zero_mul]
  exact Pol.mod_of_lt (by rw [Pol.len_zero]; exact Pol.len_pos.2 hm)

set_option maxHeartbeats 4000000 in
set_option maxRecDepth 100000 in
theorem new_bad1 (m : Nat) (N : Int) (w : World) (hm : m ≤ 18446744073709551615) (hl : Pol.len m < 9) :
    Calls Tryd.prog 47 #[.int .u64 (m : Int), .int .i64 N] w fun e w' => e = .returned (.tuple #[.pointer none, .int .i64 1]) ∧ Q w w' := by
  go_enter Tryd.func47, Tryd.ntmps47
  go_wp2_with (first
    | (go_at_call 55; (with_reducible refine (newBase_bad _ _ hm hl).mono ?_); rintro e w1 ⟨v, f, rfl, hv, hf1, hq1⟩)
    | (refine gate 6 rfl ?_; refine wpList_alloc_row rfl 102 rfl _ (zeroBase _) 258 zBaseF zBase_size zBase_get ?_; intro w2 hr2 hx2)
    | (refine wpList_store_all rfl 102 (.tmp 6) (.tmp 14) rfl _ rfl _ rfl 258 sizeBase _ hv (fun i _ => hf1 i) 102 _ hr2 ?_; intro w3 hr3 hp3))
  go_ret2
  exact ⟨rfl, hp3.q (hx2.q hq1) hq1.size⟩

set_option maxHeartbeats 4000000 in
set_option maxRecDepth 100000 in
theorem new_bad2 (m : Nat) (N : Int) (w : World) (hm : m ≤ 18446744073709551615) (hl : 9 ≤ Pol.len m) (hN : N < 1 ∨ 1024 < N) :
    Calls Tryd.prog 47 #[.int .u64 (m : Int), .int .i64 N] w fun e w' => e = .returned (.tuple #[.pointer none, .int .i64 1]) ∧ Q w w' := by
  by_cases h1 : N < 1
  · clear hN
    go_enter Tryd.func47, Tryd.ntmps47
    go_wp2_with (first
      | (go_at_call 55; (with_reducible refine (newBase_ok _ _ hm hl).mono ?_); rintro e w1 ⟨v, rfl, hv, hq1⟩)
      | (refine gate 6 rfl ?_; refine wpList_alloc_row rfl 102 rfl _ (zeroBase _) 258 zBaseF zBase_size zBase_get ?_; intro w2 hr2 hx2)
      | (refine wpList_store_all rfl 102 (.tmp 6) (.tmp 14) rfl _ rfl _ rfl 258 sizeBase _ hv (fun i _ => baseF_one m 256 i) 102 _ hr2 ?_; intro w3 hr3 hp3))
    go_ret2
    exact ⟨rfl, hp3.q (hx2.q hq1) hq1.size⟩
  · have h2 : 1024 < N := by omega
    clear hN
    go_enter Tryd.func47, Tryd.ntmps47
    go_wp2_with (first
      | (go_at_call 55; (with_reducible refine (newBase_ok _ _ hm hl).mono ?_); rintro e w1 ⟨v, rfl, hv, hq1⟩)
      | (refine gate 6 rfl ?_; refine wpList_alloc_row rfl 102 rfl _ (zeroBase _) 258 zBaseF zBase_size zBase_get ?_; intro w2 hr2 hx2)
      | (refine wpList_store_all rfl 102 (.tmp 6) (.tmp 14) rfl _ rfl _ rfl 258 sizeBase _ hv (fun i _ => baseF_one m 256 i) 102 _ hr2 ?_; intro w3 hr3 hp3))
    go_ret2
    exact ⟨rfl, hp3.q (hx2.q hq1) hq1.size⟩

set_option maxHeartbeats 8000000 in
set_option maxRecDepth 100000 in
theorem new_ok (m N : Nat) (w : World) (hm : m ≤ 18446744073709551615) (hl : 9 ≤ Pol.len m) (hN1 : 1 ≤ N) (hN2 : N ≤ 1024) :
    Calls Tryd.prog 47 #[.int .u64 (m : Int), .int .i64 (N : Int)] w fun e w' => ∃ r lb, e = .returned (.tuple #[.pointer (some ⟨r, 0, none⟩), .int .i64 0]) ∧ w.heap.size ≤ r ∧ w.heap.size ≤ lb ∧ RollHas w' r lb m N (List.replicate N 0) ∧ Q w w' := by
  have hm0 := Lib.hid (Pol.len_pos.1 (show 0 < Pol.len m by omega))
  obtain ⟨i0, hi, hz0, hz1, hz2⟩ := info_parts info8
  go_enter Tryd.func47, Tryd.ntmps47
  go_wp2_with (first
    | (go_at_call 55; (with_reducible refine (newBase_ok _ _ hm hl).mono ?_); rintro e w1 ⟨v, rfl, hv, hq1⟩)
    | (refine gate 6 rfl ?_; refine wpList_alloc_row rfl 102 rfl _ (zeroBase _) 258 zBaseF zBase_size zBase_get ?_; intro w2 hr2 hx2)
    | (refine wpList_store_all rfl 102 (.tmp 6) (.tmp 14) rfl _ rfl _ rfl 258 sizeBase _ hv (fun i _ => baseF_one m 256 i) 102 _ hr2 ?_; intro w3 hr3 hp3))
  have hq3 : Q w w3 := hp3.q (hx2.q hq1) hq1.size
  have hg := hq1.size
  clear hr2 hx2 hp3 hv hq1
  generalize w1.heap.size = g at *
  refine wp_region_any (by kernel_rfl) ?_
  change wpAny _ _ _ _ _ _ _ (World.drew _)
  refine wpAny_take (i := 1) (v := .int .i64 (N : Int)) rfl (by kernel_rfl) (by kernel_rfl) (by kernel_rfl) (fun _ _ _ h => h) (Or.inl ⟨by rfl, by intro w; go_simp⟩) ?_
  refine wpAny_ready (rs := [0, 2]) (by kernel_rfl) (by simp) ?_
  have hr4 : w3.drew.rowIs g 102 258 (baseF m 256) := hr3
  have hagg := aggIs_range 258 (baseF m 256)
  have hld := fun (a : Act) (o : Oper) (w : World) (x : Operand) (ho : o.op = .load 102 x) (hx : a.eval x = .pointer (some ⟨g, 0, none⟩)) (hr : w.rowIs g 102 258 (baseF m 256)) => exec_load_agg (P := Tryd.prog) (w := w) (o := o) (a := a) 102 x ho g 0 hx _ Tryd.underlying102 rfl 258 sizeBase (baseF m 256) (row_cells hr)
  generalize ((List.range 258).map (baseF m 256)).toArray = cs at hagg hld
  have hcs : cs.size = 258 := by obtain ⟨_, e, h, _⟩ := hagg; injection e with e; subst e; exact h
  have hr5 : (w3.drew.alloc (.cells (List.replicate N (.int .u8 0)).toArray 5)).rowIs g 102 258 (baseF m 256) := (Ext.of_alloc _ _).row hr4
  have HN := Lib.hid (rollNew m N w3.heap.size cs hagg)
  have W4r : ((w3.drew.alloc (.cells (List.replicate N (.int .u8 0)).toArray 5)).alloc (.cells (seg (seg zRoll 0 cs) 514 #[.slice (some ⟨w3.heap.size, 0, none⟩) N N]) 106)).rowIs (w3.heap.size + 1) 106 517 (rollF m N 0 w3.heap.size 0 0) := by
    obtain ⟨_, e, h1, h2⟩ := HN.out
    injection e with e
    subst e
    have h := World.rowIs_alloc (w3.drew.alloc (.cells (List.replicate N (.int .u8 0)).toArray 5)) _ 106 _ (fun i hi => h2 i (by omega))
    rw [h1] at h
    simpa using h
  have W4l : ((w3.drew.alloc (.cells (List.replicate N (.int .u8 0)).toArray 5)).alloc (.cells (seg (seg zRoll 0 cs) 514 #[.slice (some ⟨w3.heap.size, 0, none⟩) N N]) 106)).rowIs w3.heap.size 5 N (fun _ => .int .u8 0) := by
    exact (Ext.of_alloc _ _).row (rowIs_zeros w3.drew N _ _)
  have W4q : Q w ((w3.drew.alloc (.cells (List.replicate N (.int .u8 0)).toArray 5)).alloc (.cells (seg (seg zRoll 0 cs) 514 #[.slice (some ⟨w3.heap.size, 0, none⟩) N N]) 106)) := (hq3.drew.alloc _).alloc _
  have hsz : (w3.drew.alloc (.cells (List.replicate N (.int .u8 0)).toArray 5)).heap.size = w3.heap.size + 1 := by simp
  have hlb : w.heap.size ≤ w3.heap.size := hq3.size
  refine AllReady.cons rfl (fun K hK => ?_) (AllReady.cons rfl (fun K hK => ?_) AllReady.nil)
  · refine step_val rfl (hld _ _ _ _ rfl rfl hr4) ?_
    refine hK _ _ ?_
    clear hK K
    refine wpAny_ready (rs := [2]) (by kernel_rfl) (by simp) (AllReady.cons rfl (fun K hK => ?_) AllReady.nil)
    refine step_val rfl (exec_make 22 (.tmp 27) (.tmp 27) rfl 5 i0 _ Tryd.underlying22 hi hz0 hz1 1 hz2 rfl .i64 N rfl rfl (by omega) (by omega)) ?_
    refine hK _ _ ?_
    clear hK K
    refine wpAny_ready (rs := [3]) (by kernel_rfl) (by simp) (AllReady.cons rfl (fun K hK => ?_) AllReady.nil)
    refine step_val rfl (exec_build_struct 106 _ rfl _ (zeroRoll _) _ Tryd.underlying106 _ (placesRoll _ _ Tryd.underlying106) [(0, .agg cs), (2, .slice (some ⟨w3.heap.size, 0, none⟩) N N)] rfl _ (fillRoll cs hcs _ rfl)) ?_
    refine hK _ _ ?_
    clear hK K
    refine wpAny_ready (rs := [4]) (by kernel_rfl) (by simp) (AllReady.cons rfl (fun K hK => ?_) AllReady.nil)
    refine step_val rfl (exec_box_row 106 _ rfl _ rfl) ?_
    refine hK _ _ ?_
    clear hK K
    refine wpAny_ready (rs := [5]) (by kernel_rfl) (by simp) (AllReady.cons rfl (fun K hK => ?_) AllReady.nil)
    refine step_val rfl (exec_assign (.tmp 30) rfl _ rfl) ?_
    refine hK _ _ ?_
    clear hK K
    refine wpAny_done (by kernel_rfl) ?_ _
    rw [hsz]
    revert W4r W4l W4q
    generalize ((w3.drew.alloc (.cells (List.replicate N (.int .u8 0)).toArray 5)).alloc (.cells (seg (seg zRoll 0 cs) 514 #[.slice (some ⟨w3.heap.size, 0, none⟩) N N]) 106)) = w4
    intro W4r W4l W4q
    generalize w3.heap.size = lb at *
    have hne : lb ≠ lb + 1 := by omega
    have hle : w.heap.size ≤ lb + 1 := by omega
    clear hsz hld hr5 hr4 hr3 HN hq3 hagg
    generalize lb + 1 = r at *
    have R4 := Lib.hid W4r
    have L4 := Lib.hid W4l
    clear W4r W4l
    go_simp
    go_wp2_with fail
    go_loopw [9, 10, 31] (fun _ _ i wr => ∃ k : Nat, k ≤ 256 ∧ i = .int .i64 k ∧ Hid (wr.rowIs r 106 517 (rollF m N k lb 0 0) ∧ wr.rowIs lb 5 N (fun _ => .int .u8 0)) ∧ Q w wr) (fun _ _ i _ => 256 - (intOf i).toNat)
    case atStart => exact ⟨0, by omega, rfl, ⟨R4.out, L4.out⟩, W4q⟩
    case round =>
      obtain ⟨k, hk, rfl, HH, hq⟩ := hrel
      by_cases hlt : k < 256
      · have hk255 : k ≤ 255 := by omega
        have hw8 : IntKind.u8.wrap (k : Int) = (k : Int) := by simp [IntKind.wrap, IntKind.bits, IntKind.signed]; omega
        have hb : ∀ wx : World, wx.rowIs r 106 517 (rollF m N k lb 0 0) → ∀ i, i < 258 → wx.cell? ⟨r, i, none⟩ = some (baseF m 256 i) := fun wx h i hi => by
          have := h.cell (i := i) (by omega)
          rw [this]; unfold rollF; rw [if_pos hi]
        have HB := Lib.hid hb
        have hl0 : Pol.len 0 < Pol.len m := by rw [Pol.len_zero]; omega
        have hn1 := Pol.nxt_len m 0 k hm0.out
        have hin : ((N : Int) - 1) = ((N - 1 : Nat) : Int) := by omega
        have HIN := Lib.hid hin
        have hnx := Lib.hid (fun (wx : World) (h : wx.rowIs r 106 517 (rollF m N k lb 0 0)) => show Calls Tryd.prog 56 #[.pointer (some ⟨r, 0, none⟩), .int .u64 0, .int .u8 (k : Int)] wx fun e w' => e = .returned (.int .u64 (Pol.nxt m 0 k : Nat)) ∧ Q wx w' from next_nat m 0 k r wx hm hl hl0 hk255 (HB.out _ h))
        have hnz := Lib.hid (fun (wx : World) (y : Nat) (hy : Pol.len y < Pol.len m) (h : wx.rowIs r 106 517 (rollF m N k lb 0 0)) => show Calls Tryd.prog 56 #[.pointer (some ⟨r, 0, none⟩), .int .u64 (y : Int), .int .u8 0] wx fun e w' => e = .returned (.int .u64 (Pol.nxt m y 0 : Nat)) ∧ Q wx w' from next_nat m y 0 r wx hm hl hy (by omega) (HB.out _ h))
        clear hb hin
        go_wp2_with (go_at_call 56; (with_reducible refine (hnx.out _ HH.out.1).mono ?_); rintro e w5 ⟨rfl, hq5⟩)
        rw [HIN.out]
        have hN' : N - 1 < N := by omega
        generalize hNN : N - 1 = N' at *
        have HN1 := Lib.hid hNN
        clear hNN HIN
        have HR5 : Hid (w5.rowIs r 106 517 (rollF m N k lb 0 0) ∧ w5.rowIs lb 5 N (fun _ => .int .u8 0)) := ⟨row_q hq5 HH.out.1, row_q hq5 HH.out.2⟩
        have hq6 : Q w w5 := hq.step hq5
        clear hq5 HH hq
        go_loopw [10, 42] (fun s j wr => ∃ i y : Nat, i ≤ N' ∧ j = .int .i64 i ∧ s = .int .u64 y ∧ Pol.len y < Pol.len m ∧ Hid (y = Pol.roll m 0 (k :: List.replicate i 0)) ∧ Hid (wr.rowIs r 106 517 (rollF m N k lb 0 0) ∧ wr.rowIs lb 5 N (fun _ => .int .u8 0)) ∧ Q w wr) (fun _ j _ => N' - (intOf j).toNat)
        case atStart => exact ⟨0, _, by omega, rfl, rfl, hn1, rfl, HR5, hq6⟩
        case round =>
          obtain ⟨i, y, hi, rfl, rfl, hy, HY, HH, hq⟩ := hrel
          by_cases hlt2 : i < N'
          · have hx0 : (0 : Nat) ≤ 255 := by omega
            have hn2 := Pol.nxt_len m y 0 hm0.out
            have hr : Hid (Pol.nxt m y 0 = Pol.roll m 0 (k :: List.replicate (i + 1) 0)) := by
              show _ = _
              rw [HY.out, List.replicate_succ', ← List.cons_append, Pol.roll_snoc]
            go_wp2_with (go_at_call 56; (with_reducible refine (hnz.out _ y hy HH.out.1).mono ?_); rintro e w7 ⟨rfl, hq7⟩)
            go_roundw
            case rel => exact ⟨i + 1, _, by omega, by go_num, rfl, hn2, hr, ⟨row_q hq7 HH.out.1, row_q hq7 HH.out.2⟩, hq.step hq7⟩
            case measure => simp [intOf]; omega
          · have hiN : i = N' := by omega
            subst hiN
            have hv : Hid (y = outv m N k) := by show _ = _; rw [HY.out, outv, HN1.out]
            obtain ⟨h1, h2⟩ := HH.out
            have hc := h1.cell (i := 258 + k) (by omega)
            have hf := h1.frozen (258 + k)
            have hset : Hid ((wr.setCell ⟨r, 258 + k, none⟩ (.int .u64 (y : Int))).rowIs r 106 517 (rollF m N (k + 1) lb 0 0)) := by
              refine (h1.set (258 + k) (.int .u64 (y : Int))).congr fun i hi => ?_
              show (if i = 258 + k then _ else _) = _
              unfold rollF
              by_cases e : i = 258 + k
              · subst e
                rw [if_pos rfl, if_neg (by omega), if_pos (by omega), Nat.add_sub_cancel_left, hv.out]
              · rw [if_neg e]
                by_cases e0 : i < 258
                · rw [if_pos e0, if_pos e0]
                · rw [if_neg e0, if_neg e0]
                  by_cases e1 : i < 258 + k
                  · rw [if_pos e1, if_pos (by omega)]
                  · rw [if_neg e1, if_neg (show ¬ i < 258 + (k + 1) by omega)]
            have h2' := Lib.hid (h2.setOther (a := ⟨r, 258 + k, none⟩) hne (.int .u64 (y : Int)))
            have hq' : Q w (wr.setCell ⟨r, 258 + k, none⟩ (.int .u64 (y : Int))) := hq.setNew hle _
            generalize rollF m N k lb 0 0 (258 + k) = old at *
            clear h1 h2 HH
            go_wp2_with fail
            go_roundw
            case rel => exact ⟨k + 1, by omega, by go_num, ⟨hset.out, h2'.out⟩, hq'⟩
            case measure => simp [intOf]; omega
      · have hke : k = 256 := by omega
        subst hke
        have hz0 := roll_zeros0 m hm0.out N
        have hfin : RollHas wr r lb m N (List.replicate N 0) := by
          refine ⟨hne, 0, fun _ => 0, by omega, ?_, HH.out.2, by simp, fun x hx => by have := List.eq_of_mem_replicate hx; omega, fun _ => Nat.zero_le _, fun j hj => ?_⟩
          · rw [hz0]; exact HH.out.1
          · rw [List.getD_eq_getElem?_getD, List.getElem?_replicate, if_pos hj]; rfl
        clear HH
        go_wp2_with fail
        go_ret2
        exact ⟨r, lb, rfl, hle, hlb, hfin, hq⟩
  · refine step_val rfl (exec_make 22 (.tmp 27) (.tmp 27) rfl 5 i0 _ Tryd.underlying22 hi hz0 hz1 1 hz2 rfl .i64 N rfl rfl (by omega) (by omega)) ?_
    refine hK _ _ ?_
    clear hK K
    refine wpAny_ready (rs := [0]) (by kernel_rfl) (by simp) (AllReady.cons rfl (fun K hK => ?_) AllReady.nil)
    refine step_val rfl (hld _ _ _ _ rfl rfl hr5) ?_
    refine hK _ _ ?_
    clear hK K
    refine wpAny_ready (rs := [3]) (by kernel_rfl) (by simp) (AllReady.cons rfl (fun K hK => ?_) AllReady.nil)
    refine step_val rfl (exec_build_struct 106 _ rfl _ (zeroRoll _) _ Tryd.underlying106 _ (placesRoll _ _ Tryd.underlying106) [(0, .agg cs), (2, .slice (some ⟨w3.heap.size, 0, none⟩) N N)] rfl _ (fillRoll cs hcs _ rfl)) ?_
    refine hK _ _ ?_
    clear hK K
    refine wpAny_ready (rs := [4]) (by kernel_rfl) (by simp) (AllReady.cons rfl (fun K hK => ?_) AllReady.nil)
    refine step_val rfl (exec_box_row 106 _ rfl _ rfl) ?_
    refine hK _ _ ?_
    clear hK K
    refine wpAny_ready (rs := [5]) (by kernel_rfl) (by simp) (AllReady.cons rfl (fun K hK => ?_) AllReady.nil)
    refine step_val rfl (exec_assign (.tmp 30) rfl _ rfl) ?_
    refine hK _ _ ?_
    clear hK K
    refine wpAny_done (by kernel_rfl) ?_ _
    rw [hsz]
    revert W4r W4l W4q
    generalize ((w3.drew.alloc (.cells (List.replicate N (.int .u8 0)).toArray 5)).alloc (.cells (seg (seg zRoll 0 cs) 514 #[.slice (some ⟨w3.heap.size, 0, none⟩) N N]) 106)) = w4
    intro W4r W4l W4q
    generalize w3.heap.size = lb at *
    have hne : lb ≠ lb + 1 := by omega
    have hle : w.heap.size ≤ lb + 1 := by omega
    clear hsz hld hr5 hr4 hr3 HN hq3 hagg
    generalize lb + 1 = r at *
    have R4 := Lib.hid W4r
    have L4 := Lib.hid W4l
    clear W4r W4l
    go_simp
    go_wp2_with fail
    go_loopw [9, 10, 31] (fun _ _ i wr => ∃ k : Nat, k ≤ 256 ∧ i = .int .i64 k ∧ Hid (wr.rowIs r 106 517 (rollF m N k lb 0 0) ∧ wr.rowIs lb 5 N (fun _ => .int .u8 0)) ∧ Q w wr) (fun _ _ i _ => 256 - (intOf i).toNat)
    case atStart => exact ⟨0, by omega, rfl, ⟨R4.out, L4.out⟩, W4q⟩
    case round =>
      obtain ⟨k, hk, rfl, HH, hq⟩ := hrel
      by_cases hlt : k < 256
      · have hk255 : k ≤ 255 := by omega
        have hw8 : IntKind.u8.wrap (k : Int) = (k : Int) := by simp [IntKind.wrap, IntKind.bits, IntKind.signed]; omega
        have hb : ∀ wx : World, wx.rowIs r 106 517 (rollF m N k lb 0 0) → ∀ i, i < 258 → wx.cell? ⟨r, i, none⟩ = some (baseF m 256 i) := fun wx h i hi => by
          have := h.cell (i := i) (by omega)
          rw [this]; unfold rollF; rw [if_pos hi]
        have HB := Lib.hid hb
        have hl0 : Pol.len 0 < Pol.len m := by rw [Pol.len_zero]; omega
        have hn1 := Pol.nxt_len m 0 k hm0.out
        have hin : ((N : Int) - 1) = ((N - 1 : Nat) : Int) := by omega
        have HIN := Lib.hid hin
        have hnx := Lib.hid (fun (wx : World) (h : wx.rowIs r 106 517 (rollF m N k lb 0 0)) => show Calls Tryd.prog 56 #[.pointer (some ⟨r, 0, none⟩), .int .u64 0, .int .u8 (k : Int)] wx fun e w' => e = .returned (.int .u64 (Pol.nxt m 0 k : Nat)) ∧ Q wx w' from next_nat m 0 k r wx hm hl hl0 hk255 (HB.out _ h))
        have hnz := Lib.hid (fun (wx : World) (y : Nat) (hy : Pol.len y < Pol.len m) (h : wx.rowIs r 106 517 (rollF m N k lb 0 0)) => show Calls Tryd.prog 56 #[.pointer (some ⟨r, 0, none⟩), .int .u64 (y : Int), .int .u8 0] wx fun e w' => e = .returned (.int .u64 (Pol.nxt m y 0 : Nat)) ∧ Q wx w' from next_nat m y 0 r wx hm hl hy (by omega) (HB.out _ h))
        clear hb hin
        go_wp2_with (go_at_call 56; (with_reducible refine (hnx.out _ HH.out.1).mono ?_); rintro e w5 ⟨rfl, hq5⟩)
        rw [HIN.out]
        have hN' : N - 1 < N := by omega
        generalize hNN : N - 1 = N' at *
        have HN1 := Lib.hid hNN
        clear hNN HIN
        have HR5 : Hid (w5.rowIs r 106 517 (rollF m N k lb 0 0) ∧ w5.rowIs lb 5 N (fun _ => .int .u8 0)) := ⟨row_q hq5 HH.out.1, row_q hq5 HH.out.2⟩
        have hq6 : Q w w5 := hq.step hq5
        clear hq5 HH hq
        go_loopw [10, 42] (fun s j wr => ∃ i y : Nat, i ≤ N' ∧ j = .int .i64 i ∧ s = .int .u64 y ∧ Pol.len y < Pol.len m ∧ Hid (y = Pol.roll m 0 (k :: List.replicate i 0)) ∧ Hid (wr.rowIs r 106 517 (rollF m N k lb 0 0) ∧ wr.rowIs lb 5 N (fun _ => .int .u8 0)) ∧ Q w wr) (fun _ j _ => N' - (intOf j).toNat)
        case atStart => exact ⟨0, _, by omega, rfl, rfl, hn1, rfl, HR5, hq6⟩
        case round =>
          obtain ⟨i, y, hi, rfl, rfl, hy, HY, HH, hq⟩ := hrel
          by_cases hlt2 : i < N'
          · have hx0 : (0 : Nat) ≤ 255 := by omega
            have hn2 := Pol.nxt_len m y 0 hm0.out
            have hr : Hid (Pol.nxt m y 0 = Pol.roll m 0 (k :: List.replicate (i + 1) 0)) := by
              show _ = _
              rw [HY.out, List.replicate_succ', ← List.cons_append, Pol.roll_snoc]
            go_wp2_with (go_at_call 56; (with_reducible refine (hnz.out _ y hy HH.out.1).mono ?_); rintro e w7 ⟨rfl, hq7⟩)
            go_roundw
            case rel => exact ⟨i + 1, _, by omega, by go_num, rfl, hn2, hr, ⟨row_q hq7 HH.out.1, row_q hq7 HH.out.2⟩, hq.step hq7⟩
            case measure => simp [intOf]; omega
          · have hiN : i = N' := by omega
            subst hiN
            have hv : Hid (y = outv m N k) := by show _ = _; rw [HY.out, outv, HN1.out]
            obtain ⟨h1, h2⟩ := HH.out
            have hc := h1.cell (i := 258 + k) (by omega)
            have hf := h1.frozen (258 + k)
            have hset : Hid ((wr.setCell ⟨r, 258 + k, none⟩ (.int .u64 (y : Int))).rowIs r 106 517 (rollF m N (k + 1) lb 0 0)) := by
              refine (h1.set (258 + k) (.int .u64 (y : Int))).congr fun i hi => ?_
              show (if i = 258 + k then _ else _) = _
              unfold rollF
              by_cases e : i = 258 + k
              · subst e
                rw [if_pos rfl, if_neg (by omega), if_pos (by omega), Nat.add_sub_cancel_left, hv.out]
              · rw [if_neg e]
                by_cases e0 : i < 258
                · rw [if_pos e0, if_pos e0]
                · rw [if_neg e0, if_neg e0]
                  by_cases e1 : i < 258 + k
                  · rw [if_pos e1, if_pos (by omega)]
                  · rw [if_neg e1, if_neg (show ¬ i < 258 + (k + 1) by omega)]
            have h2' := Lib.hid (h2.setOther (a := ⟨r, 258 + k, none⟩) hne (.int .u64 (y : Int)))
            have hq' : Q w (wr.setCell ⟨r, 258 + k, none⟩ (.int .u64 (y : Int))) := hq.setNew hle _
            generalize rollF m N k lb 0 0 (258 + k) = old at *
            clear h1 h2 HH
            go_wp2_with fail
            go_roundw
            case rel => exact ⟨k + 1, by omega, by go_num, ⟨hset.out, h2'.out⟩, hq'⟩
            case measure => simp [intOf]; omega
      · have hke : k = 256 := by omega
        subst hke
        have hz0 := roll_zeros0 m hm0.out N
        have hfin : RollHas wr r lb m N (List.replicate N 0) := by
          refine ⟨hne, 0, fun _ => 0, by omega, ?_, HH.out.2, by simp, fun x hx => by have := List.eq_of_mem_replicate hx; omega, fun _ => Nat.zero_le _, fun j hj => ?_⟩
          · rw [hz0]; exact HH.out.1
          · rw [List.getD_eq_getElem?_getD, List.getElem?_replicate, if_pos hj]; rfl
        clear HH
        go_wp2_with fail
        go_ret2
        exact ⟨r, lb, rfl, hle, hlb, hfin, hq⟩
end Go.Proofs.YtcdbffgmgfblkaaDoor
