/- The walks through Push, Sum and Clear. -/
import Derived.Test.YtcdbffgmgfblkaaDoorRollN
import Derived.Deep.RegionHeld3
namespace Go.Proofs.YtcdbffgmgfblkaaDoor
set_option linter.unusedVariables false
set_option linter.unusedSimpArgs false
open Go.RowKit

/-- The window, behind bytes more. -/
def slide (W l : List Nat) : List Nat := l.foldl (fun W x => W.tail ++ [x]) W
theorem slide_nil (W : List Nat) : slide W [] = W := rfl
theorem slide_snoc (W l : List Nat) (x : Nat) : slide W (l ++ [x]) = (slide W l).tail ++ [x] := by simp [slide, List.foldl_append]
theorem slide_append (W l k : List Nat) : slide W (l ++ k) = slide (slide W l) k := by simp [slide, List.foldl_append]
theorem slide_cons (W l : List Nat) (x : Nat) : slide W (x :: l) = slide (W.tail ++ [x]) l := rfl
theorem slide_eq : ∀ (l W : List Nat), W ≠ [] → slide W l = (W ++ l).drop l.length
  | [], W, _ => by simp [slide]
  | x :: l, W, h => by
    rw [slide_cons, slide_eq l _ (by simp)]
    cases W with
    | nil => exact absurd rfl h
    | cons a T => simp

theorem roll_out (m : Nat) (hm : m ≠ 0) (a : Nat) (T : List Nat) : Pol.roll m 0 (a :: T) ^^^ Pol.roll m 0 (a :: List.replicate T.length 0) = Pol.roll m 0 T := by
  have h := Pol.roll_xor m (a :: T) (a :: List.replicate T.length 0) (by simp) 0 0
  have e : List.zipWith (· ^^^ ·) T (List.replicate T.length 0) = T := by
    clear h
    induction T with
    | nil => rfl
    | cons x T ih => rw [List.length_cons, List.replicate_succ, List.zipWith_cons_cons, ih, Nat.xor_zero]
  rw [List.zipWith_cons_cons, e, Nat.xor_self, Nat.xor_self, Pol.roll_lead m hm] at h
  exact h.symm

section
variable (m N lb at_ y : Nat)
theorem rollF_514 : rollF m N 256 lb at_ y 514 = .slice (some ⟨lb, 0, none⟩) N N := rfl
theorem rollF_515 : rollF m N 256 lb at_ y 515 = .int .i64 at_ := rfl
theorem rollF_516 : rollF m N 256 lb at_ y 516 = .int .u64 y := rfl
theorem rollF_out {o : Nat} (h : o < 256) : rollF m N 256 lb at_ y (258 + o) = .int .u64 (outv m N o : Nat) := by
  unfold rollF; rw [if_neg (by omega), if_pos (by omega), Nat.add_sub_cancel_left]
theorem rollF_base {i : Nat} (h : i < 258) : rollF m N 256 lb at_ y i = baseF m 256 i := by unfold rollF; rw [if_pos h]
theorem rollF_sum (y' i : Nat) : (if i = 516 then Value.int .u64 (y' : Int) else rollF m N 256 lb at_ y i) = rollF m N 256 lb at_ y' i ∨ 517 ≤ i := by
  by_cases h : i = 516
  · subst h; left; rfl
  · by_cases h2 : i < 517
    · left
      rw [if_neg h]
      unfold rollF
      by_cases e0 : i < 258
      · rw [if_pos e0, if_pos e0]
      · rw [if_neg e0, if_neg e0]
        by_cases e1 : i < 258 + 256
        · rw [if_pos e1, if_pos e1]
        · rw [if_neg e1, if_neg e1]
          by_cases e2 : i < 514
          · omega
          · rw [if_neg e2, if_neg e2]
            by_cases e3 : i = 514
            · rw [if_pos e3, if_pos e3]
            · rw [if_neg e3, if_neg e3, if_pos (show i = 515 by omega), if_pos (show i = 515 by omega)]
    · right; omega
theorem rollF_at (a' i : Nat) : (if i = 515 then Value.int .i64 (a' : Int) else rollF m N 256 lb at_ y i) = rollF m N 256 lb a' y i := by
  by_cases h : i = 515
  · subst h; rfl
  · rw [if_neg h]
    unfold rollF
    by_cases e0 : i < 258
    · rw [if_pos e0, if_pos e0]
    · rw [if_neg e0, if_neg e0]
      by_cases e1 : i < 258 + 256
      · rw [if_pos e1, if_pos e1]
      · rw [if_neg e1, if_neg e1]
        by_cases e2 : i < 514
        · omega
        · rw [if_neg e2, if_neg e2]
          by_cases e3 : i = 514
          · rw [if_pos e3, if_pos e3]
          · rw [if_neg e3, if_neg e3, if_neg h, if_neg h]
end

theorem ring_step {N at_ x : Nat} {ring : Nat → Nat} {a0 : Nat} {T : List Nat} (hat : at_ < N) (hT : T.length = N - 1) (hj : ∀ j, j < N → ring ((at_ + j) % N) = (a0 :: T).getD j 0) :
    ∀ j, j < N → (if ((at_ + 1) % N + j) % N = at_ then x else ring (((at_ + 1) % N + j) % N)) = (T ++ [x]).getD j 0 := by
  intro j h
  have e : ((at_ + 1) % N + j) % N = (at_ + (j + 1)) % N := by rw [Nat.mod_add_mod]; congr 1; omega
  rw [e]
  by_cases hl : j + 1 = N
  · have e2 : (at_ + (j + 1)) % N = at_ := by rw [hl, Nat.add_mod_right, Nat.mod_eq_of_lt hat]
    rw [if_pos e2, List.getD_eq_getElem?_getD, List.getElem?_append_right (by omega), show j - T.length = 0 by omega]; rfl
  · have hne : (at_ + (j + 1)) % N ≠ at_ := by
      intro h2
      by_cases h3 : at_ + (j + 1) < N
      · rw [Nat.mod_eq_of_lt h3] at h2; omega
      · rw [Nat.mod_eq_sub_mod (by omega), Nat.mod_eq_of_lt (by omega)] at h2; omega
    rw [if_neg hne, hj (j + 1) (by omega), List.getD_eq_getElem?_getD, List.getD_eq_getElem?_getD, List.getElem?_append_left (by omega), List.getElem?_cons_succ]

/-- The two blocks of a roll. -/
def Own2 (r lb k : Nat) : Prop := k = r ∨ k = lb

/-- The struct, whatever its sum is. -/
def RowSum (w : World) (r m N lb at_ : Nat) : Prop := ∃ y : Nat, w.rowIs r 106 517 (rollF m N 256 lb at_ y)
theorem rowSum_set {w : World} {r m N lb at_ : Nat} (h : Hid (RowSum w r m N lb at_)) (y : Nat) : (w.setCell ⟨r, 516, none⟩ (.int .u64 (y : Int))).rowIs r 106 517 (rollF m N 256 lb at_ y) := by
  obtain ⟨y0, h⟩ := h.out
  refine (h.set 516 (.int .u64 (y : Int))).congr fun i hi => ?_
  rcases rollF_sum m N lb at_ y0 y i with h | h
  · exact h
  · omega
theorem rowSum_alloc {w : World} {r m N lb at_ : Nat} {o : Obj} (h : Hid (RowSum w r m N lb at_)) : RowSum (w.alloc o) r m N lb at_ := by
  obtain ⟨y0, h⟩ := h.out; exact ⟨y0, (Ext.of_alloc _ _).row h⟩
theorem rowSum_q {w w' : World} {r m N lb at_ : Nat} (h : Hid (RowSum w r m N lb at_)) (hq : Q w w') : RowSum w' r m N lb at_ := by
  obtain ⟨y0, h⟩ := h.out; exact ⟨y0, row_q hq h⟩
theorem hrow_set {w : World} {k r i n : Nat} {t : TypeId} {f : Nat → Value} {v : Value} (h : Hid (w.rowIs k t n f)) (hk : k ≠ r) : (w.setCell ⟨r, i, none⟩ v).rowIs k t n f := h.out.setOther (a := ⟨r, i, none⟩) hk v
theorem honly_set {w w' : World} {r lb i : Nat} {v : Value} (h : Hid (Only (Own2 r lb) w w')) : Only (Own2 r lb) w (w'.setCell ⟨r, i, none⟩ v) := h.out.setCell (.inl rfl) v

set_option maxHeartbeats 8000000 in
set_option maxRecDepth 100000 in
theorem push_ok (m N r lb n c : Nat) (A : Option Addr) (ok : Nat → Prop) (W l : List Nat) (w : World) (hm : m ≤ 18446744073709551615) (hl : 9 ≤ Pol.len m) (hN1 : 1 ≤ N) (hN2 : N ≤ 1024) (hh : RollHas w r lb m N W)
    (hs : SeesP w ok A (l.map B8)) (hok : ∀ b, ok b → b < w.heap.size ∧ ¬ Own2 r lb b) (hn : l.length = n) (hn2 : n ≤ 9223372036854775806) (hx : ∀ x ∈ l, x ≤ 255) :
    Calls Tryd.prog 57 #[.pointer (some ⟨r, 0, none⟩), .slice A n c] w fun e w' => e = .returned (.int .u64 (Pol.roll m 0 (slide W l) : Nat)) ∧ RollHas w' r lb m N (slide W l) ∧ Only (Own2 r lb) w w' := by
  have HS := Lib.hid hs
  have HX := Lib.hid hx
  have HL := Lib.hid hn
  have HR := Lib.hid hh
  have HOK := Lib.hid hok
  have hm0 := Lib.hid (Pol.len_pos.1 (show 0 < Pol.len m by omega))
  clear hs hx hn hh hok
  go_enter Tryd.func57, Tryd.ntmps57
  go_wp2_with fail
  go_loopw [6, 11] (fun _ i wr => ∃ k : Nat, k ≤ n ∧ i = .int .i64 k ∧ Hid (RollHas wr r lb m N (slide W (l.take k))) ∧ Only (Own2 r lb) w wr) (fun _ i _ => n - (intOf i).toNat)
  case atStart => exact ⟨0, by omega, rfl, HR.out, Only.refl _ _⟩
  case round =>
    obtain ⟨k, hk, rfl, HH, ho⟩ := hrel
    by_cases hlt : k < n
    · have hkl : k < l.length := by rw [HL.out]; exact hlt
      obtain ⟨b, o, rfl, hb, hc⟩ := (ho.sees HS.out HOK.out).at_ (k := k) (u := B8 l[k]) (by simp [hkl])
      have hx1 := HX.out l[k] (List.getElem_mem hkl)
      have hsl : Hid (slide W (l.take (k + 1)) = (slide W (l.take k)).tail ++ [l[k]]) := by show _ = _; rw [List.take_succ_eq_append_getElem hkl, slide_snoc]
      generalize l[k] = x at *
      generalize hW2 : slide W (l.take (k + 1)) = W2 at *
      have HW2 := Lib.hid hW2
      clear hW2
      generalize slide W (l.take k) = W1 at *
      obtain ⟨hfar, at_, ring, hat, h1, h2, hWl, hWx, hrx, hWj⟩ := HH.out
      have hW0 : ring at_ = W1.getD 0 0 := by have := hWj 0 (by omega); rwa [Nat.add_zero, Nat.mod_eq_of_lt hat] at this
      obtain ⟨a0, T, rfl⟩ : ∃ a0 T, W1 = a0 :: T := by
        cases W1 with
        | nil => simp at hWl; omega
        | cons a T => exact ⟨a, T, rfl⟩
      have hTl : T.length = N - 1 := by simp at hWl; omega
      have hW0' : ring at_ = a0 := by rw [hW0]; rfl
      have ha0 : a0 ≤ 255 := hWx a0 (List.mem_cons_self ..)
      have hroll : Hid (Pol.roll m 0 (a0 :: T) ^^^ outv m N a0 = Pol.roll m 0 T) := by show _ = _; rw [outv, ← hTl]; exact roll_out m hm0.out a0 T
      have hnx : Hid (Pol.nxt m (Pol.roll m 0 T) x = Pol.roll m 0 W2) := by show _ = _; rw [hsl.out, List.tail_cons, Pol.roll_snoc]
      have hTlen := Pol.roll_len m hm0.out T 0 (by rw [Pol.len_zero]; omega)
      have hy1 := roll_le hm hm0.out (a0 :: T)
      have hy2 : outv m N a0 ≤ 18446744073709551615 := roll_le hm hm0.out _
      have c1 := h1.cell (i := 516) (by omega)
      have c2 := h1.cell (i := 514) (by omega)
      have c3 := h1.cell (i := 515) (by omega)
      have c4 := h1.cell (i := 258 + a0) (by omega)
      have c5 := h2.cell (i := at_) hat
      rw [rollF_516] at c1
      rw [rollF_514] at c2
      rw [rollF_515] at c3
      rw [rollF_out _ _ _ _ _ (by omega)] at c4
      rw [hW0'] at c5
      unfold B8 at c5 hc
      have hbase := Lib.hid (fun (w' : World) (h : Hid (RowSum w' r m N lb at_)) => show ∀ i, i < 258 → w'.cell? ⟨r, i, none⟩ = some (baseF m 256 i) from fun i hi => by
        obtain ⟨y0, r1⟩ := h.out
        have h := r1.cell (i := i) (by omega)
        rw [rollF_base _ _ _ _ _ hi] at h; exact h)
      have hnxt := Lib.hid (fun (w' : World) (r1 : Hid (RowSum w' r m N lb at_)) => show Calls Tryd.prog 56 #[.pointer (some ⟨r, 0, none⟩), .int .u64 ((Pol.roll m 0 (a0 :: T) ^^^ outv m N a0 : Nat) : Int), .int .u8 (x : Int)] w' fun e w2 => e = .returned (.int .u64 (Pol.roll m 0 W2 : Nat)) ∧ Q w' w2 from by
        rw [hroll.out, ← hnx.out]; exact next_nat m (Pol.roll m 0 T) x r w' hm hl hTlen hx1 (hbase.out w' r1))
      clear hroll hnx
      have hvv := Lib.hid (show outv m N a0 = outv m N a0 from rfl)
      generalize hyy : Pol.roll m 0 (a0 :: T) = y at *
      generalize hv2 : outv m N a0 = v at *
      generalize hy4 : Pol.roll m 0 W2 = y4 at *
      have hS := Lib.hid (fun (w' : World) (r1 : RowSum w' r m N lb at_) (r2 : w'.rowIs lb 5 N (fun i => B8 (ring i))) (r3 : Only (Own2 r lb) w w') =>
        show w'.cell? ⟨r, 514, none⟩ = some (.slice (some ⟨lb, 0, none⟩) N N) ∧ w'.cell? ⟨r, 515, none⟩ = some (.int .i64 (at_ : Int)) ∧ w'.cell? ⟨lb, at_, none⟩ = some (.int .u8 (a0 : Int)) ∧ w'.cell? ⟨r, 258 + a0, none⟩ = some (.int .u64 (v : Int)) ∧ w'.frozen? ⟨r, 516, none⟩ = false ∧ Hid (RowSum w' r m N lb at_) ∧ Hid (w'.rowIs lb 5 N (fun i => B8 (ring i))) ∧ Hid (Only (Own2 r lb) w w') from by
          obtain ⟨y0, r1⟩ := r1
          refine ⟨r1.cell (i := 514) (by omega), r1.cell (i := 515) (by omega), ?_, ?_, r1.frozen 516, ⟨y0, r1⟩, r2, r3⟩
          · rw [r2.cell (i := at_) hat, hW0']; rfl
          · rw [r1.cell (i := 258 + a0) (by omega), rollF_out _ _ _ _ _ (by omega), hv2])
      have hcs := Lib.hid (fun (w' : World) (r1 : Hid (RowSum w' r m N lb at_)) => show ∃ u, w'.cell? ⟨r, 516, none⟩ = some u from by
        obtain ⟨y0, r1⟩ := r1.out
        exact ⟨_, r1.cell (i := 516) (by omega)⟩)
      have hat0 : (0 : Int) ≤ (at_ : Int) := Int.natCast_nonneg _
      have hat1 : (at_ : Int) < (N : Int) := by omega
      have ha00 : (0 : Int) ≤ (a0 : Int) := Int.natCast_nonneg _
      have ha01 : (a0 : Int) < 256 := by omega
      have H1 : Hid (RowSum wr r m N lb at_) := ⟨_, h1⟩
      have H2 := Lib.hid h2
      have HO := Lib.hid ho
      have HWJ := Lib.hid hWj
      have HWX := Lib.hid hWx
      have HW0 := Lib.hid hW0'
      have HY4 := Lib.hid hy4
      clear h1 h2 hbase hyy hv2 hvv hy4 c2 c3 c4 c5 hWj hWx hWl hW0 hW0' HH ho
      go_wp2_with fail
      refine wp_region_noPanic ?_
      refine wp_region_held_drew (S := (fun w' => w'.cell? ⟨r, 514, none⟩ = some (.slice (some ⟨lb, 0, none⟩) N N) ∧ w'.cell? ⟨r, 515, none⟩ = some (.int .i64 (at_ : Int)) ∧ w'.cell? ⟨lb, at_, none⟩ = some (.int .u8 (a0 : Int)) ∧ w'.cell? ⟨r, 258 + a0, none⟩ = some (.int .u64 (v : Int)) ∧ w'.frozen? ⟨r, 516, none⟩ = false ∧ Hid (RowSum w' r m N lb at_) ∧ Hid (w'.rowIs lb 5 N (fun i => B8 (ring i))) ∧ Hid (Only (Own2 r lb) w w'))) (by kernel_rfl) ?_ (fun hHeld => ?_)
      · exact hS.out (World.drew _) H1.out H2.out HO.out.drew
      refine wpAnyH_take (i := 0) (v := ?_) rfl (by kernel_rfl) (by kernel_rfl) (by kernel_rfl) (fun _ _ _ h => h) (Or.inl ⟨by rfl, ?_⟩) (by assumption) ?_
      rotate_left
      · (intro w hSw; (try dsimp only at hSw); go_split_ands; go_simp; try with_reducible rfl)
      try simp only [Act.put, List.getElem_toArray, List.getElem_cons_zero, List.getElem_cons_succ, List.setIfInBounds_toArray, List.set_cons_zero, List.set_cons_succ]
      refine wpAnyH_take (i := 1) (v := ?_) rfl (by kernel_rfl) (by kernel_rfl) (by kernel_rfl) (fun _ _ _ h => h) (Or.inl ⟨by rfl, ?_⟩) (by assumption) ?_
      rotate_left
      · (intro w hSw; (try dsimp only at hSw); go_split_ands; go_simp; try with_reducible rfl)
      try simp only [Act.put, List.getElem_toArray, List.getElem_cons_zero, List.getElem_cons_succ, List.setIfInBounds_toArray, List.set_cons_zero, List.set_cons_succ]
      refine wpAnyH_take (i := 2) (v := ?_) rfl (by kernel_rfl) (by kernel_rfl) (by kernel_rfl) (fun _ _ _ h => h) (Or.inl ⟨by rfl, ?_⟩) (by assumption) ?_
      rotate_left
      · (intro w hSw; (try dsimp only at hSw); go_split_ands; go_simp; try with_reducible rfl)
      try simp only [Act.put, List.getElem_toArray, List.getElem_cons_zero, List.getElem_cons_succ, List.setIfInBounds_toArray, List.set_cons_zero, List.set_cons_succ]
      refine wpAnyH_take (i := 3) (v := ?_) rfl (by kernel_rfl) (by kernel_rfl) (by kernel_rfl) (fun _ _ _ h => h) (Or.inl ⟨by rfl, ?_⟩) (by assumption) ?_
      rotate_left
      · (intro w hSw; (try dsimp only at hSw); go_split_ands; go_simp; try with_reducible rfl)
      try simp only [Act.put, List.getElem_toArray, List.getElem_cons_zero, List.getElem_cons_succ, List.setIfInBounds_toArray, List.set_cons_zero, List.set_cons_succ]
      refine wpAnyH_take (i := 4) (v := ?_) rfl (by kernel_rfl) (by kernel_rfl) (by kernel_rfl) (fun _ _ _ h => h) (Or.inl ⟨by rfl, ?_⟩) (by assumption) ?_
      rotate_left
      · (intro w hSw; (try dsimp only at hSw); go_split_ands; go_simp; try with_reducible rfl)
      try simp only [Act.put, List.getElem_toArray, List.getElem_cons_zero, List.getElem_cons_succ, List.setIfInBounds_toArray, List.set_cons_zero, List.set_cons_succ]
      refine wpAnyH_take (i := 5) (v := ?_) rfl (by kernel_rfl) (by kernel_rfl) (by kernel_rfl) (fun _ _ _ h => h) (Or.inl ⟨by rfl, ?_⟩) (by assumption) ?_
      rotate_left
      · (intro w hSw; (try dsimp only at hSw); go_split_ands; go_simp; try with_reducible rfl)
      try simp only [Act.put, List.getElem_toArray, List.getElem_cons_zero, List.getElem_cons_succ, List.setIfInBounds_toArray, List.set_cons_zero, List.set_cons_succ]
      refine wpAnyH_take (i := 6) (v := ?_) rfl (by kernel_rfl) (by kernel_rfl) (by kernel_rfl) (fun _ _ _ h => h) (Or.inl ⟨by rfl, ?_⟩) (by assumption) ?_
      rotate_left
      · (intro w hSw; (try dsimp only at hSw); go_split_ands; go_simp; try with_reducible rfl)
      try simp only [Act.put, List.getElem_toArray, List.getElem_cons_zero, List.getElem_cons_succ, List.setIfInBounds_toArray, List.set_cons_zero, List.set_cons_succ]
      refine wpAnyH_take (i := 8) (v := ?_) rfl (by kernel_rfl) (by kernel_rfl) (by kernel_rfl) (fun _ _ _ h => h) (Or.inl ⟨by rfl, ?_⟩) (by assumption) ?_
      rotate_left
      · (intro w hSw; (try dsimp only at hSw); go_split_ands; go_simp; try with_reducible rfl)
      try simp only [Act.put, List.getElem_toArray, List.getElem_cons_zero, List.getElem_cons_succ, List.setIfInBounds_toArray, List.set_cons_zero, List.set_cons_succ]
      refine wpAnyH_take (i := 9) (v := ?_) rfl (by kernel_rfl) (by kernel_rfl) (by kernel_rfl) (fun _ _ _ h => h) (Or.inl ⟨by rfl, ?_⟩) (by assumption) ?_
      rotate_left
      · (intro w hSw; (try dsimp only at hSw); go_split_ands; go_simp; try with_reducible rfl)
      try simp only [Act.put, List.getElem_toArray, List.getElem_cons_zero, List.getElem_cons_succ, List.setIfInBounds_toArray, List.set_cons_zero, List.set_cons_succ]
      refine wpAnyH_take (i := 10) (v := ?_) rfl (by kernel_rfl) (by kernel_rfl) (by kernel_rfl) (fun _ _ _ h => h) (Or.inl ⟨by rfl, ?_⟩) (by assumption) ?_
      rotate_left
      · (intro w hSw; (try dsimp only at hSw); go_split_ands; go_simp; try with_reducible rfl)
      try simp only [Act.put, List.getElem_toArray, List.getElem_cons_zero, List.getElem_cons_succ, List.setIfInBounds_toArray, List.set_cons_zero, List.set_cons_succ]
      refine wpAnyH_take (i := 11) (v := ?_) rfl (by kernel_rfl) (by kernel_rfl) (by kernel_rfl) (fun _ _ _ h => h) (Or.inl ⟨by rfl, ?_⟩) (by assumption) ?_
      rotate_left
      · (intro w hSw; (try dsimp only at hSw); go_split_ands; go_simp; try with_reducible rfl)
      try simp only [Act.put, List.getElem_toArray, List.getElem_cons_zero, List.getElem_cons_succ, List.setIfInBounds_toArray, List.set_cons_zero, List.set_cons_succ]
      refine wpAnyH_take (i := 12) (v := ?_) rfl (by kernel_rfl) (by kernel_rfl) (by kernel_rfl) (fun _ _ _ h => h) (Or.inl ⟨by rfl, ?_⟩) (by assumption) ?_
      rotate_left
      · (intro w hSw; (try dsimp only at hSw); go_split_ands; go_simp; try with_reducible rfl)
      try simp only [Act.put, List.getElem_toArray, List.getElem_cons_zero, List.getElem_cons_succ, List.setIfInBounds_toArray, List.set_cons_zero, List.set_cons_succ]
      refine wpAnyH_take (i := 13) (v := ?_) rfl (by kernel_rfl) (by kernel_rfl) (by kernel_rfl) (fun _ _ _ h => h) (Or.inl ⟨by rfl, ?_⟩) (by assumption) ?_
      rotate_left
      · (intro w hSw; (try dsimp only at hSw); go_split_ands; go_simp; try with_reducible rfl)
      try simp only [Act.put, List.getElem_toArray, List.getElem_cons_zero, List.getElem_cons_succ, List.setIfInBounds_toArray, List.set_cons_zero, List.set_cons_succ]
      refine wpAnyH_take (i := 14) (v := ?_) rfl (by kernel_rfl) (by kernel_rfl) (by kernel_rfl) (fun _ _ _ h => h) (Or.inl ⟨by rfl, ?_⟩) (by assumption) ?_
      rotate_left
      · (intro w hSw; (try dsimp only at hSw); go_split_ands; go_simp; try with_reducible rfl)
      try simp only [Act.put, List.getElem_toArray, List.getElem_cons_zero, List.getElem_cons_succ, List.setIfInBounds_toArray, List.set_cons_zero, List.set_cons_succ]
      refine wpAnyH_take (i := 15) (v := ?_) rfl (by kernel_rfl) (by kernel_rfl) (by kernel_rfl) (fun _ _ _ h => h) (Or.inl ⟨by rfl, ?_⟩) (by assumption) ?_
      rotate_left
      · (intro w hSw; (try dsimp only at hSw); go_split_ands; go_simp; try with_reducible rfl)
      try simp only [Act.put, List.getElem_toArray, List.getElem_cons_zero, List.getElem_cons_succ, List.setIfInBounds_toArray, List.set_cons_zero, List.set_cons_succ]
      refine wpAnyH_take (i := 16) (v := ?_) rfl (by kernel_rfl) (by kernel_rfl) (by kernel_rfl) (fun _ _ _ h => h) (Or.inl ⟨by rfl, ?_⟩) (by assumption) ?_
      rotate_left
      · (intro w hSw; (try dsimp only at hSw); go_split_ands; go_simp; try with_reducible rfl)
      try simp only [Act.put, List.getElem_toArray, List.getElem_cons_zero, List.getElem_cons_succ, List.setIfInBounds_toArray, List.set_cons_zero, List.set_cons_succ]
      refine wpAnyH_take (i := 17) (v := ?_) rfl (by kernel_rfl) (by kernel_rfl) (by kernel_rfl) (fun _ _ _ h => h) (Or.inl ⟨by rfl, ?_⟩) (by assumption) ?_
      rotate_left
      · (intro w hSw; (try dsimp only at hSw); go_split_ands; go_simp; try with_reducible rfl)
      try simp only [Act.put, List.getElem_toArray, List.getElem_cons_zero, List.getElem_cons_succ, List.setIfInBounds_toArray, List.set_cons_zero, List.set_cons_succ]
      refine wpAnyH_take (i := 18) (v := ?_) rfl (by kernel_rfl) (by kernel_rfl) (by kernel_rfl) (fun _ _ _ h => h) (Or.inl ⟨by rfl, ?_⟩) (by assumption) ?_
      rotate_left
      · (intro w hSw; (try dsimp only at hSw); go_split_ands; go_simp; try with_reducible rfl)
      try simp only [Act.put, List.getElem_toArray, List.getElem_cons_zero, List.getElem_cons_succ, List.setIfInBounds_toArray, List.set_cons_zero, List.set_cons_succ]
      refine wpAnyH_take (i := 19) (v := ?_) rfl (by kernel_rfl) (by kernel_rfl) (by kernel_rfl) (fun _ _ _ h => h) (Or.inl ⟨by rfl, ?_⟩) (by assumption) ?_
      rotate_left
      · (intro w hSw; (try dsimp only at hSw); go_split_ands; go_simp; try with_reducible rfl)
      try simp only [Act.put, List.getElem_toArray, List.getElem_cons_zero, List.getElem_cons_succ, List.setIfInBounds_toArray, List.set_cons_zero, List.set_cons_succ]
      refine wpAnyH_take (i := 20) (v := ?_) rfl (by kernel_rfl) (by kernel_rfl) (by kernel_rfl) (fun _ _ _ h => h) (Or.inl ⟨by rfl, ?_⟩) (by assumption) ?_
      rotate_left
      · (intro w hSw; (try dsimp only at hSw); go_split_ands; go_simp; try with_reducible rfl)
      try simp only [Act.put, List.getElem_toArray, List.getElem_cons_zero, List.getElem_cons_succ, List.setIfInBounds_toArray, List.set_cons_zero, List.set_cons_succ]
      refine wpAnyH_take (i := 21) (v := ?_) rfl (by kernel_rfl) (by kernel_rfl) (by kernel_rfl) (fun _ _ _ h => h) (Or.inl ⟨by rfl, ?_⟩) (by assumption) ?_
      rotate_left
      · (intro w hSw; (try dsimp only at hSw); go_split_ands; go_simp; try with_reducible rfl)
      try simp only [Act.put, List.getElem_toArray, List.getElem_cons_zero, List.getElem_cons_succ, List.setIfInBounds_toArray, List.set_cons_zero, List.set_cons_succ]
      refine wpAnyH_take (i := 22) (v := ?_) rfl (by kernel_rfl) (by kernel_rfl) (by kernel_rfl) (fun _ _ _ h => h) (Or.inl ⟨by rfl, ?_⟩) (by assumption) ?_
      rotate_left
      · (intro w hSw; (try dsimp only at hSw); go_split_ands; go_simp; try with_reducible rfl)
      try simp only [Act.put, List.getElem_toArray, List.getElem_cons_zero, List.getElem_cons_succ, List.setIfInBounds_toArray, List.set_cons_zero, List.set_cons_succ]
      refine wpAnyH_take (i := 25) (v := ?_) rfl (by kernel_rfl) (by kernel_rfl) (by kernel_rfl) (fun _ _ _ h => h) (Or.inl ⟨by rfl, ?_⟩) (by assumption) ?_
      rotate_left
      · (intro w hSw; (try dsimp only at hSw); go_split_ands; go_simp; try with_reducible rfl)
      try simp only [Act.put, List.getElem_toArray, List.getElem_cons_zero, List.getElem_cons_succ, List.setIfInBounds_toArray, List.set_cons_zero, List.set_cons_succ]
      refine wpAnyH_ready (rs := [7]) (by kernel_rfl) (by simp) (AllReadyH.cons rfl (fun K hK => ?_) AllReadyH.nil)
      go_simp
      refine hK.out _ _ ?_ (fun hHeld => ?_)
      · ((try dsimp only); go_split_ands; exact hS.out _ (by first | exact Hid.out (by assumption) | exact rowSum_alloc (by assumption) | exact rowSum_q (by assumption) hq1 | exact ⟨_, rowSum_set (by assumption) y4⟩) (by first | exact Hid.out (by assumption) | exact hrow_alloc (by assumption) | exact hrow_q (by assumption) hq1 | exact hrow_set (by assumption) hfar) (by first | exact Hid.out (by assumption) | exact honly_alloc (by assumption) | exact honly_q (by assumption) hq1 | exact honly_set (by assumption)))
      clear hK K
      try simp only [Act.put, List.getElem_toArray, List.getElem_cons_zero, List.getElem_cons_succ, List.setIfInBounds_toArray, List.set_cons_zero, List.set_cons_succ]
      refine wpAnyH_ready (rs := [23]) (by kernel_rfl) (by simp) (AllReadyH.cons rfl (fun K hK => ?_) AllReadyH.nil)
      go_simp
      refine hK.out _ _ ?_ (fun hHeld => ?_)
      · ((try dsimp only); go_split_ands; exact hS.out _ (by first | exact Hid.out (by assumption) | exact rowSum_alloc (by assumption) | exact rowSum_q (by assumption) hq1 | exact ⟨_, rowSum_set (by assumption) y4⟩) (by first | exact Hid.out (by assumption) | exact hrow_alloc (by assumption) | exact hrow_q (by assumption) hq1 | exact hrow_set (by assumption) hfar) (by first | exact Hid.out (by assumption) | exact honly_alloc (by assumption) | exact honly_q (by assumption) hq1 | exact honly_set (by assumption)))
      clear hK K
      try simp only [Act.put, List.getElem_toArray, List.getElem_cons_zero, List.getElem_cons_succ, List.setIfInBounds_toArray, List.set_cons_zero, List.set_cons_succ]
      refine wpAnyH_ready (rs := [24]) (by kernel_rfl) (by simp) (AllReadyH.cons rfl (fun K hK => ?_) AllReadyH.nil)
      go_simp
      go_at_call 64
      refine (add_lit y v wr.heap.size _ wr.drew rfl hy1 hy2).mono ?_
      rintro e w1 ⟨rfl, rfl⟩
      go_wp2_with fail
      refine hK.out _ _ ?_ (fun hHeld => ?_)
      · ((try dsimp only); go_split_ands; exact hS.out _ (by first | exact Hid.out (by assumption) | exact rowSum_alloc (by assumption) | exact rowSum_q (by assumption) hq1 | exact ⟨_, rowSum_set (by assumption) y4⟩) (by first | exact Hid.out (by assumption) | exact hrow_alloc (by assumption) | exact hrow_q (by assumption) hq1 | exact hrow_set (by assumption) hfar) (by first | exact Hid.out (by assumption) | exact honly_alloc (by assumption) | exact honly_q (by assumption) hq1 | exact honly_set (by assumption)))
      clear hK K
      try simp only [Act.put, List.getElem_toArray, List.getElem_cons_zero, List.getElem_cons_succ, List.setIfInBounds_toArray, List.set_cons_zero, List.set_cons_succ]
      refine wpAnyH_ready (rs := [26]) (by kernel_rfl) (by simp) (AllReadyH.cons rfl (fun K hK => ?_) AllReadyH.nil)
      go_simp
      go_at_call 56
      go_split_ands
      with_reducible refine (hnxt.out _ (by assumption)).mono ?_
      rintro e w1 ⟨rfl, hq1⟩
      have hrs : Hid (RowSum w1 r m N lb at_) := rowSum_q (by assumption) hq1
      have hl2 : Hid (w1.rowIs lb 5 N (fun i => B8 (ring i))) := hrow_q (by assumption) hq1
      have ho2 : Hid (Only (Own2 r lb) w w1) := honly_q (by assumption) hq1
      obtain ⟨u0, hu0⟩ := hcs.out _ hrs
      go_wp2_with fail
      refine hK.out _ _ ?_ (fun hHeld => ?_)
      · ((try dsimp only); go_split_ands; exact hS.out _ (by first | exact Hid.out (by assumption) | exact rowSum_alloc (by assumption) | exact rowSum_q (by assumption) hq1 | exact ⟨_, rowSum_set (by assumption) y4⟩) (by first | exact Hid.out (by assumption) | exact hrow_alloc (by assumption) | exact hrow_q (by assumption) hq1 | exact hrow_set (by assumption) hfar) (by first | exact Hid.out (by assumption) | exact honly_alloc (by assumption) | exact honly_q (by assumption) hq1 | exact honly_set (by assumption)))
      clear hK K
      try simp only [Act.put, List.getElem_toArray, List.getElem_cons_zero, List.getElem_cons_succ, List.setIfInBounds_toArray, List.set_cons_zero, List.set_cons_succ]
      refine wpAnyH_take (i := 27) (v := ?_) rfl (by kernel_rfl) (by kernel_rfl) (by kernel_rfl) (fun _ _ _ h => h) (Or.inl ⟨by rfl, ?_⟩) (by assumption) ?_
      rotate_left
      · (intro w hSw; (try dsimp only at hSw); go_split_ands; go_simp; try with_reducible rfl)
      try simp only [Act.put, List.getElem_toArray, List.getElem_cons_zero, List.getElem_cons_succ, List.setIfInBounds_toArray, List.set_cons_zero, List.set_cons_succ]
      refine wpAnyH_take (i := 28) (v := ?_) rfl (by kernel_rfl) (by kernel_rfl) (by kernel_rfl) (fun _ _ _ h => h) (Or.inl ⟨by rfl, ?_⟩) (by assumption) ?_
      rotate_left
      · (intro w hSw; (try dsimp only at hSw); go_split_ands; go_simp; try with_reducible rfl)
      try simp only [Act.put, List.getElem_toArray, List.getElem_cons_zero, List.getElem_cons_succ, List.setIfInBounds_toArray, List.set_cons_zero, List.set_cons_succ]
      refine wpAnyH_ready (rs := [29]) (by kernel_rfl) (by simp) (AllReadyH.cons rfl (fun K hK => ?_) AllReadyH.nil)
      go_split_ands
      go_simp
      refine hK.out _ _ ?_ (fun hHeld => ?_)
      · ((try dsimp only); go_split_ands; exact hS.out _ (by first | exact Hid.out (by assumption) | exact rowSum_alloc (by assumption) | exact rowSum_q (by assumption) hq1 | exact ⟨_, rowSum_set (by assumption) y4⟩) (by first | exact Hid.out (by assumption) | exact hrow_alloc (by assumption) | exact hrow_q (by assumption) hq1 | exact hrow_set (by assumption) hfar) (by first | exact Hid.out (by assumption) | exact honly_alloc (by assumption) | exact honly_q (by assumption) hq1 | exact honly_set (by assumption)))
      clear hK K
      try simp only [Act.put, List.getElem_toArray, List.getElem_cons_zero, List.getElem_cons_succ, List.setIfInBounds_toArray, List.set_cons_zero, List.set_cons_succ]
      refine wpAnyH_done (by kernel_rfl) ?_ _
      refine NoPanic.normal ?_
      have R6 := rowSum_set hrs y4
      have L6 : (w1.setCell ⟨r, 516, none⟩ (.int .u64 (y4 : Int))).rowIs lb 5 N (fun i => B8 (ring i)) := hrow_set hl2 hfar
      have O6 : Only (Own2 r lb) w (w1.setCell ⟨r, 516, none⟩ (.int .u64 (y4 : Int))) := honly_set ho2
      generalize w1.setCell ⟨r, 516, none⟩ (.int .u64 (y4 : Int)) = w6 at *
      clear hrs hl2 ho2 hu0 hS hcs hnxt H1 H2 HO
      have hS7 := Lib.hid (fun (w' : World) (r1 : w'.rowIs r 106 517 (rollF m N 256 lb at_ y4)) =>
        show w'.cell? ⟨r, 514, none⟩ = some (.slice (some ⟨lb, 0, none⟩) N N) ∧ w'.cell? ⟨r, 515, none⟩ = some (.int .i64 (at_ : Int)) from
          ⟨r1.cell (i := 514) (by omega), r1.cell (i := 515) (by omega)⟩)
      have k1 := L6.cell (i := at_) hat
      have k2 := L6.frozen at_
      have R6' := Lib.hid R6
      have L6' := Lib.hid L6
      have O6' := Lib.hid O6
      have R7 : Hid ((w6.setCell ⟨lb, at_, none⟩ (.int .u8 (x : Int))).rowIs r 106 517 (rollF m N 256 lb at_ y4)) := R6.setOther (a := ⟨lb, at_, none⟩) hfar.symm _
      generalize B8 (ring at_) = old at *
      clear R6 L6 O6
      go_wp2_with fail
      go_region_held3 (fun w' => w'.cell? ⟨r, 514, none⟩ = some (.slice (some ⟨lb, 0, none⟩) N N) ∧ w'.cell? ⟨r, 515, none⟩ = some (.int .i64 (at_ : Int)))
        (first
          | exact hS7.out (World.drew _) R6'.out
          | exact hS7.out _ R7.out)
        (fail)
      have R7d : (w6.setCell ⟨lb, at_, none⟩ (.int .u8 (x : Int))).drew.rowIs r 106 517 (rollF m N 256 lb at_ y4) := R7.out
      have L7d : (w6.setCell ⟨lb, at_, none⟩ (.int .u8 (x : Int))).drew.rowIs lb 5 N (fun i => if i = at_ then .int .u8 (x : Int) else B8 (ring i)) := L6'.out.set at_ (.int .u8 (x : Int))
      have O7d : Only (Own2 r lb) w (w6.setCell ⟨lb, at_, none⟩ (.int .u8 (x : Int))).drew := (O6'.out.setCell (p := ⟨lb, at_, none⟩) (.inr rfl) _).drew
      generalize (w6.setCell ⟨lb, at_, none⟩ (.int .u8 (x : Int))).drew = w7 at *
      clear R7 R6' L6' O6' k1 k2 hS7
      have hrem : ((at_ : Int) + 1).tmod (N : Int) = (((at_ + 1) % N : Nat) : Int) := by
        rw [Int.tmod_eq_emod_of_nonneg (by omega)]; norm_cast
      have hN0 : ((N : Int) == 0) = false := by rw [beq_eq_false_iff_ne]; omega
      have hN0' : ¬ N = 0 := by omega
      have hwr : IntKind.i64.wrap ((at_ : Int) + 1) = (at_ : Int) + 1 := by rw [IntKind.wrap_i64]; omega
      have d1 := R7d.cell (i := 514) (by omega)
      have d2 := R7d.cell (i := 515) (by omega)
      have d3 := R7d.frozen 515
      rw [rollF_514] at d1
      rw [rollF_515] at d2
      have R8 := Lib.hid ((R7d.set 515 (.int .i64 (((at_ + 1) % N : Nat) : Int))).congr fun i _ => rollF_at m N lb at_ y4 ((at_ + 1) % N) i)
      have L8 := Lib.hid (L7d.setOther (a := ⟨r, 515, none⟩) hfar (.int .i64 (((at_ + 1) % N : Nat) : Int)))
      have O8 := Lib.hid (O7d.setCell (p := ⟨r, 515, none⟩) (.inl rfl) (.int .i64 (((at_ + 1) % N : Nat) : Int)))
      have hat' : (at_ + 1) % N < N := Nat.mod_lt _ (by omega)
      have HRS := Lib.hid (ring_step (x := x) hat hTl HWJ.out)
      generalize (at_ + 1) % N = at' at *
      clear R7d L7d O7d
      go_wp2_with fail
      refine wp_region_noPanic ?_
      refine wp_region_held_drew (S := (fun w' => w'.cell? ⟨r, 514, none⟩ = some (.slice (some ⟨lb, 0, none⟩) N N) ∧ w'.frozen? ⟨r, 515, none⟩ = false)) (by kernel_rfl) ?_ (fun hHeld => ?_)
      · exact ⟨d1, d3⟩
      refine wpAnyH_take (i := 0) (v := ?_) rfl (by kernel_rfl) (by kernel_rfl) (by kernel_rfl) (fun _ _ _ h => h) (Or.inl ⟨by rfl, ?_⟩) (by assumption) ?_
      rotate_left
      · (intro w hSw; (try dsimp only at hSw); go_split_ands; go_simp; try with_reducible rfl)
      try simp only [Act.put, List.getElem_toArray, List.getElem_cons_zero, List.getElem_cons_succ, List.setIfInBounds_toArray, List.set_cons_zero, List.set_cons_succ]
      refine wpAnyH_take (i := 1) (v := ?_) rfl (by kernel_rfl) (by kernel_rfl) (by kernel_rfl) (fun _ _ _ h => h) (Or.inl ⟨by rfl, ?_⟩) (by assumption) ?_
      rotate_left
      · (intro w hSw; (try dsimp only at hSw); go_split_ands; go_simp; try with_reducible rfl)
      try simp only [Act.put, List.getElem_toArray, List.getElem_cons_zero, List.getElem_cons_succ, List.setIfInBounds_toArray, List.set_cons_zero, List.set_cons_succ]
      refine wpAnyH_take (i := 2) (v := ?_) rfl (by kernel_rfl) (by kernel_rfl) (by kernel_rfl) (fun _ _ _ h => h) (Or.inl ⟨by rfl, ?_⟩) (by assumption) ?_
      rotate_left
      · (intro w hSw; (try dsimp only at hSw); go_split_ands; go_simp; try with_reducible rfl)
      try simp only [Act.put, List.getElem_toArray, List.getElem_cons_zero, List.getElem_cons_succ, List.setIfInBounds_toArray, List.set_cons_zero, List.set_cons_succ]
      refine wpAnyH_take (i := 3) (v := ?_) rfl (by kernel_rfl) (by kernel_rfl) (by kernel_rfl) (fun _ _ _ h => h) (Or.inl ⟨by rfl, ?_⟩) (by assumption) ?_
      rotate_left
      · (intro w hSw; (try dsimp only at hSw); go_split_ands; go_simp; try with_reducible rfl)
      try simp only [Act.put, List.getElem_toArray, List.getElem_cons_zero, List.getElem_cons_succ, List.setIfInBounds_toArray, List.set_cons_zero, List.set_cons_succ]
      refine wpAnyH_take (i := 6) (v := ?_) rfl (by kernel_rfl) (by kernel_rfl) (by kernel_rfl) (fun _ _ _ h => h) (Or.inl ⟨by rfl, ?_⟩) (by assumption) ?_
      rotate_left
      · (intro w hSw; (try dsimp only at hSw); go_split_ands; go_simp; try with_reducible rfl)
      try simp only [Act.put, List.getElem_toArray, List.getElem_cons_zero, List.getElem_cons_succ, List.setIfInBounds_toArray, List.set_cons_zero, List.set_cons_succ]
      refine wpAnyH_take (i := 7) (v := ?_) rfl (by kernel_rfl) (by kernel_rfl) (by kernel_rfl) (fun _ _ _ h => h) (Or.inl ⟨by rfl, ?_⟩) (by assumption) ?_
      rotate_left
      · (intro w hSw; (try dsimp only at hSw); go_split_ands; go_simp; try with_reducible rfl)
      try simp only [Act.put, List.getElem_toArray, List.getElem_cons_zero, List.getElem_cons_succ, List.setIfInBounds_toArray, List.set_cons_zero, List.set_cons_succ]
      refine wpAnyH_take (i := 8) (v := ?_) rfl (by kernel_rfl) (by kernel_rfl) (by kernel_rfl) (fun _ _ _ h => h) (Or.inl ⟨by rfl, ?_⟩) (by assumption) ?_
      rotate_left
      · (intro w hSw; (try dsimp only at hSw); go_split_ands; go_simp; try with_reducible rfl)
      try simp only [Act.put, List.getElem_toArray, List.getElem_cons_zero, List.getElem_cons_succ, List.setIfInBounds_toArray, List.set_cons_zero, List.set_cons_succ]
      refine wpAnyH_take (i := 9) (v := ?_) rfl (by kernel_rfl) (by kernel_rfl) (by kernel_rfl) (fun _ _ _ h => h) (Or.inl ⟨by rfl, ?_⟩) (by assumption) ?_
      rotate_left
      · (intro w hSw; (try dsimp only at hSw); go_split_ands; go_simp; try with_reducible rfl)
      try simp only [Act.put, List.getElem_toArray, List.getElem_cons_zero, List.getElem_cons_succ, List.setIfInBounds_toArray, List.set_cons_zero, List.set_cons_succ]
      refine wpAnyH_take (i := 10) (v := ?_) rfl (by kernel_rfl) (by kernel_rfl) (by kernel_rfl) (fun _ _ _ h => h) (Or.inl ⟨by rfl, ?_⟩) (by assumption) ?_
      rotate_left
      · (intro w hSw; (try dsimp only at hSw); go_split_ands; go_simp; try with_reducible rfl)
      try simp only [Act.put, List.getElem_toArray, List.getElem_cons_zero, List.getElem_cons_succ, List.setIfInBounds_toArray, List.set_cons_zero, List.set_cons_succ]
      refine wpAnyH_ready (rs := [4]) (by kernel_rfl) (by simp) (AllReadyH.cons rfl (fun K hK => ?_) AllReadyH.nil)
      go_simp
      refine hK.out _ _ ?_ (fun hHeld => ?_)
      · ((try dsimp only); go_split_ands; refine ⟨?_, ?_⟩ <;> go_simp)
      clear hK K
      try simp only [Act.put, List.getElem_toArray, List.getElem_cons_zero, List.getElem_cons_succ, List.setIfInBounds_toArray, List.set_cons_zero, List.set_cons_succ]
      refine wpAnyH_take (i := 5) (v := ?_) rfl (by kernel_rfl) (by kernel_rfl) (by kernel_rfl) (fun _ _ _ h => h) (Or.inl ⟨by rfl, ?_⟩) (by assumption) ?_
      rotate_left
      · (intro w hSw; (try dsimp only at hSw); go_split_ands; go_simp; try with_reducible rfl)
      try simp only [Act.put, List.getElem_toArray, List.getElem_cons_zero, List.getElem_cons_succ, List.setIfInBounds_toArray, List.set_cons_zero, List.set_cons_succ]
      refine wpAnyH_take (i := 11) (v := ?_) rfl (by kernel_rfl) (by kernel_rfl) (by kernel_rfl) (fun _ _ _ h => h) (Or.inl ⟨by rfl, ?_⟩) (by assumption) ?_
      rotate_left
      · (intro w hSw; (try dsimp only at hSw); go_split_ands; go_simp; try with_reducible rfl)
      try simp only [Act.put, List.getElem_toArray, List.getElem_cons_zero, List.getElem_cons_succ, List.setIfInBounds_toArray, List.set_cons_zero, List.set_cons_succ]
      refine wpAnyH_take (i := 12) (v := ?_) rfl (by kernel_rfl) (by kernel_rfl) (by kernel_rfl) (fun _ _ _ h => h) (Or.inl ⟨by rfl, ?_⟩) (by assumption) ?_
      rotate_left
      · (intro w hSw; (try dsimp only at hSw); go_split_ands; go_simp; try with_reducible rfl)
      try simp only [Act.put, List.getElem_toArray, List.getElem_cons_zero, List.getElem_cons_succ, List.setIfInBounds_toArray, List.set_cons_zero, List.set_cons_succ]
      refine wpAnyH_take (i := 13) (v := ?_) rfl (by kernel_rfl) (by kernel_rfl) (by kernel_rfl) (fun _ _ _ h => h) (Or.inl ⟨by rfl, ?_⟩) (by assumption) ?_
      rotate_left
      · (intro w hSw; (try dsimp only at hSw); go_split_ands; go_simp; try with_reducible rfl)
      try simp only [Act.put, List.getElem_toArray, List.getElem_cons_zero, List.getElem_cons_succ, List.setIfInBounds_toArray, List.set_cons_zero, List.set_cons_succ]
      refine wpAnyH_ready (rs := [14]) (by kernel_rfl) (by simp) (AllReadyH.cons rfl (fun K hK => ?_) AllReadyH.nil)
      go_split_ands
      go_simp
      refine hK.out _ _ ?_ (fun hHeld => ?_)
      · ((try dsimp only); go_split_ands; refine ⟨?_, ?_⟩ <;> go_simp)
      clear hK K
      try simp only [Act.put, List.getElem_toArray, List.getElem_cons_zero, List.getElem_cons_succ, List.setIfInBounds_toArray, List.set_cons_zero, List.set_cons_succ]
      refine wpAnyH_done (by kernel_rfl) ?_ _
      refine NoPanic.normal ?_
      have HF : Hid (RollHas ((w7.setCell ⟨r, 515, none⟩ (.int .i64 (at' : Int))).drew) r lb m N W2) := by
        refine ⟨hfar, at', fun i => if i = at_ then x else ring i, hat', ?_, ?_, ?_, ?_, ?_, ?_⟩
        · rw [HY4.out]; exact R8.out
        · exact L8.out.congr fun i _ => by
            show (if i = at_ then _ else _) = B8 (if i = at_ then x else ring i)
            split <;> rfl
        · rw [hsl.out]; simp; omega
        · intro x' hx'
          rw [hsl.out, List.tail_cons, List.mem_append] at hx'
          rcases hx' with h | h
          · exact HWX.out x' (List.mem_cons_of_mem _ h)
          · rw [List.mem_singleton] at h; subst h; exact hx1
        · intro i
          show (if i = at_ then x else ring i) ≤ 255
          split
          · exact hx1
          · exact hrx i
        · rw [hsl.out]; exact HRS.out
      have OF := O8.out.drew
      clear R8 L8 O8 HRS HWX HWJ d1 d2 d3 hHeld
      generalize (w7.setCell ⟨r, 515, none⟩ (.int .i64 (at' : Int))).drew = w8 at *
      go_wp2_with fail
      go_roundw
      case rel => exact ⟨k + 1, by omega, by go_num, (by rw [HW2.out]; exact HF), OF⟩
      case measure => simp [intOf]; omega
    · have hke : l.take k = l := List.take_of_length_le (by have := HL.out; omega)
      have hh := HH.out
      rw [hke] at hh
      have hh2 := Lib.hid hh
      obtain ⟨hfar, at_, ring, hat, h1, _⟩ := hh
      have c1 := h1.cell (i := 516) (by omega)
      rw [rollF_516] at c1
      clear HH h1
      go_wp2_with fail
      go_ret
      exact ⟨rfl, hh2.out, ho⟩
end Go.Proofs.YtcdbffgmgfblkaaDoor
