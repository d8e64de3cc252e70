/- The walk through the law RollForgetful. -/
import Derived.Test.YtphjmicbcalbkaaRollT
import Derived.Test.YtphjmicbcalbkaaPolFa
import Derived.Deep.RegionHeld3
namespace Go.Proofs.Ytphjmicbcalbkaa
set_option linter.unusedVariables false
set_option linter.unusedSimpArgs false
open Go.RowKit

theorem slide_full (W l : List Nat) (hW : W ≠ []) (h : l.length = W.length) : slide W l = l := by
  rw [slide_eq l W hW, h, List.drop_left]

/-- Push of the two bytes 7 and 9. -/
theorem push_two (m N r lb g : Nat) (W : List Nat) (w : World) (hm : m ≤ 18446744073709551615) (hl : 9 ≤ Pol.len m) (hN1 : 1 ≤ N) (hN2 : N ≤ 1024) (hh : RollHas w r lb m N W) (hg : g < w.heap.size) (hgr : ¬ Own2 r lb g)
    (h0 : w.cell? ⟨g, 0, none⟩ = some (.int .u8 7)) (h1 : w.cell? ⟨g, 1, none⟩ = some (.int .u8 9)) :
    Calls Try.prog 16 #[.pointer (some ⟨r, 0, none⟩), .slice (some ⟨g, 0, none⟩) 2 2] w fun e w' => e = .returned (.int .u64 (Pol.roll m 0 (slide W [7, 9]) : Nat)) ∧ RollHas w' r lb m N (slide W [7, 9]) ∧ Only (Own2 r lb) w w' :=
  push_ok m N r lb 2 2 (some ⟨g, 0, none⟩) (fun b => b = g) W [7, 9] w hm hl hN1 hN2 hh
    (fun _ => ⟨_, 0, rfl, rfl, fun j u hu => by
      match j, hu with
      | 0, hu => simp at hu; subst hu; exact h0
      | 1, hu => simp at hu; subst hu; exact h1⟩)
    (fun b hb => by subst hb; exact ⟨hg, hgr⟩) rfl (by omega) (by simp)

set_option maxHeartbeats 4000000 in
set_option maxRecDepth 100000 in
theorem rollForgetful_bad (m n1 c1 n2 c2 n c : Nat) (A1 A2 A : Option Addr) (w : World) (hm : m ≤ 18446744073709551615) (hl : Pol.len m < 9) (hnc : n ≤ c) :
    Calls Try.prog 6 #[.agg #[.int .u64 (m : Int), .slice A1 n1 c1, .slice A2 n2 c2, .slice A n c]] w fun e w' => e = .returned (.bool true) ∧ Q w w' := by
  obtain ⟨i0, hi, hz0, hz1, hz2⟩ := info_parts info8
  have hK1 : min n 200 ≤ c := by omega
  go_enter Try.func6, Try.ntmps6
  go_wp2_with (first
    | (refine gate 13 rfl ?_; refine wpList_min2 rfl (.tmp 12) (.const (.int .i64 200)) _ rfl .i64 n 200 (min n 200) rfl rfl rfl ?_)
    | (refine gate 14 rfl ?_; refine wpList_slice_hi rfl 23 (.tmp 9) (.tmp 13) rfl 5 Try.underlying23 i0 hi _ _ _ rfl .i64 (min n 200) rfl hK1 ?_)
    | (go_at_call 11; first
        | (have _h := qB; (with_reducible refine (rolls_true _).mono ?_); rintro e w4 ⟨rfl, hq4⟩; have qC : Q w w4 := qB.step hq4)
        | ((with_reducible refine (rolls_true _).mono ?_); rintro e w3 ⟨rfl, hq3⟩; have qA : Q w w3 := ((Q.refl w).alloc _).step hq3; have hcm : w3.cell? ⟨w.heap.size, 0, none⟩ = some (.int .u64 (m : Int)) := (by rw [hq3.cell (by simp)]; go_simp)))
    | (go_at_call 12; (with_reducible refine (right_no _ _ hm hl).mono ?_); rintro e w1 ⟨rfl, hq1⟩; have qB : Q w w1 := qA.step hq1))
  go_ret
  exact ⟨rfl, qC⟩

set_option maxHeartbeats 4000000 in
set_option maxRecDepth 100000 in
theorem rollForgetful_none (m n1 c1 n2 c2 c : Nat) (A1 A2 A : Option Addr) (w : World) (hm : m ≤ 18446744073709551615) (hl : 9 ≤ Pol.len m) :
    Calls Try.prog 6 #[.agg #[.int .u64 (m : Int), .slice A1 n1 c1, .slice A2 n2 c2, .slice A 0 c]] w fun e w' => e = .returned (.bool true) ∧ Q w w' := by
  obtain ⟨i0, hi, hz0, hz1, hz2⟩ := info_parts info8
  have hK1 : 0 ≤ c := by omega
  go_enter Try.func6, Try.ntmps6
  go_wp2_with (first
    | (refine gate 13 rfl ?_; refine wpList_min2 rfl (.tmp 12) (.const (.int .i64 200)) _ rfl .i64 0 200 0 rfl rfl rfl ?_)
    | (refine gate 14 rfl ?_; refine wpList_slice_hi rfl 23 (.tmp 9) (.tmp 13) rfl 5 Try.underlying23 i0 hi _ _ _ rfl .i64 0 rfl hK1 ?_)
    | (go_at_call 11; first
        | (have _h := qB; (with_reducible refine (rolls_true _).mono ?_); rintro e w4 ⟨rfl, hq4⟩; have qC : Q w w4 := qB.step hq4)
        | ((with_reducible refine (rolls_true _).mono ?_); rintro e w3 ⟨rfl, hq3⟩; have qA : Q w w3 := ((Q.refl w).alloc _).step hq3; have hcm : w3.cell? ⟨w.heap.size, 0, none⟩ = some (.int .u64 (m : Int)) := (by rw [hq3.cell (by simp)]; go_simp)))
    | (go_at_call 12; (with_reducible refine (right_yes _ _ hm hl).mono ?_); rintro e w1 ⟨rfl, hq1⟩; have qB : Q w w1 := qA.step hq1))
  go_ret
  exact ⟨rfl, qC⟩

/-- Two rolls, and the polynomial's cell. -/
structure St (w0 w : World) (m N r lb s ls : Nat) (Wr Ws : List Nat) : Prop where
  q : Q w0 w
  hr : RollHas w r lb m N Wr
  hs : RollHas w s ls m N Ws
  c : w.cell? ⟨w0.heap.size, 0, none⟩ = some (.int .u64 (m : Int))
  lt : w0.heap.size < w.heap.size
  far : r ≠ s ∧ r ≠ ls ∧ lb ≠ s ∧ lb ≠ ls
  b : w0.heap.size < r ∧ w0.heap.size < lb ∧ w0.heap.size < s ∧ w0.heap.size < ls
section
variable {w0 w w' : World} {m N r lb s ls : Nat} {Wr Ws Wn : List Nat}
theorem St.go (h : St w0 w m N r lb s ls Wr Ws) (hq : Q w w') : St w0 w' m N r lb s ls Wr Ws := ⟨h.q.step hq, h.hr.q hq, h.hs.q hq, (hq.cell h.lt).trans h.c, Nat.lt_of_lt_of_le h.lt hq.size, h.far, h.b⟩
theorem St.alloc (h : St w0 w m N r lb s ls Wr Ws) (o : Obj) : St w0 (w.alloc o) m N r lb s ls Wr Ws := h.go ((Q.refl w).alloc o)
theorem St.drew (h : St w0 w m N r lb s ls Wr Ws) : St w0 w.drew m N r lb s ls Wr Ws := h.go (Q.refl w).drew
theorem St.pr (h : St w0 w m N r lb s ls Wr Ws) (hn : RollHas w' r lb m N Wn) (ho : Only (Own2 r lb) w w') : St w0 w' m N r lb s ls Wn Ws :=
  ⟨ho.q h.q (fun k hk => by have := h.b; rcases hk with rfl | rfl <;> omega), hn, h.hs.only ho (fun hk => by have := h.far; rcases hk with hk | hk <;> omega) (fun hk => by have := h.far; rcases hk with hk | hk <;> omega),
    (World.cell?_of_block (a := ⟨w0.heap.size, 0, none⟩) (ho.block w0.heap.size h.lt (fun hk => by have := h.b; rcases hk with hk | hk <;> omega))).trans h.c, Nat.lt_of_lt_of_le h.lt ho.size, h.far, h.b⟩
theorem St.ps (h : St w0 w m N r lb s ls Wr Ws) (hn : RollHas w' s ls m N Wn) (ho : Only (Own2 s ls) w w') : St w0 w' m N r lb s ls Wr Wn :=
  ⟨ho.q h.q (fun k hk => by have := h.b; rcases hk with rfl | rfl <;> omega), h.hr.only ho (fun hk => by have := h.far; rcases hk with hk | hk <;> omega) (fun hk => by have := h.far; rcases hk with hk | hk <;> omega), hn,
    (World.cell?_of_block (a := ⟨w0.heap.size, 0, none⟩) (ho.block w0.heap.size h.lt (fun hk => by have := h.b; rcases hk with hk | hk <;> omega))).trans h.c, Nat.lt_of_lt_of_le h.lt ho.size, h.far, h.b⟩
theorem St.newR (h : St w0 w m N r lb s ls Wr Ws) {g : Nat} (hg : w.heap.size ≤ g) : ¬ Own2 r lb g := fun hk => by have := h.hr.lt; rcases hk with hk | hk <;> omega
theorem St.newS (h : St w0 w m N r lb s ls Wr Ws) {g : Nat} (hg : w.heap.size ≤ g) : ¬ Own2 s ls g := fun hk => by have := h.hs.lt; rcases hk with hk | hk <;> omega
end
theorem only_cell {S : Nat → Prop} {w w' : World} (h : Only S w w') {p : Addr} (hp : p.block < w.heap.size) (hs : ¬ S p.block) {v : Value} (hc : w.cell? p = some v) : w'.cell? p = some v :=
  (World.cell?_of_block (h.block p.block hp hs)).trans hc

set_option maxHeartbeats 16000000 in
set_option maxRecDepth 100000 in
theorem rollForgetful_good (m n1 c1 n2 c2 n c K1 K2 N : Nat) (A1 A2 A : Option Addr) (l1 l2 l : List Nat) (w : World) (hm : m ≤ 18446744073709551615) (hl : 9 ≤ Pol.len m)
    (hs1 : SeesP w (· < w.heap.size) A1 (l1.map B8)) (hK1 : K1 = min n1 500) (hlk1 : l1.length = K1) (hx1 : ∀ x ∈ l1, x ≤ 255) (hnc1 : n1 ≤ c1) (hcm1 : c1 ≤ 9223372036854775807)
    (hs2 : SeesP w (· < w.heap.size) A2 (l2.map B8)) (hK2 : K2 = min n2 500) (hlk2 : l2.length = K2) (hx2 : ∀ x ∈ l2, x ≤ 255) (hnc2 : n2 ≤ c2) (hcm2 : c2 ≤ 9223372036854775807)
    (hs : SeesP w (· < w.heap.size) A (l.map B8)) (hN : N = min n 200) (hlk : l.length = N) (hx : ∀ x ∈ l, x ≤ 255) (hnc : n ≤ c) (hcm : c ≤ 9223372036854775807) (hn : 1 ≤ n) :
    Calls Try.prog 6 #[.agg #[.int .u64 (m : Int), .slice A1 n1 c1, .slice A2 n2 c2, .slice A n c]] w fun e w' => e = .returned (.bool true) ∧ Q w w' := by
  obtain ⟨i0, hi, hz0, hz1, hz2⟩ := info_parts info8
  have k1 : K1 ≤ c1 := by omega
  have k2 : K2 ≤ c2 := by omega
  have k3 : N ≤ c := by omega
  have hN1 : 1 ≤ N := by omega
  have hN2 : N ≤ 1024 := by omega
  have hN0 : ((N : Int) == 0) = false := by rw [beq_eq_false_iff_ne]; omega
  have HK1 := Lib.hid hK1
  have HK2 := Lib.hid hK2
  have HN := Lib.hid hN
  have hm0 := Lib.hid (Pol.len_pos.1 (show 0 < Pol.len m by omega))
  have hp1 := Lib.hid (fun (wx : World) (r lb : Nat) (W : List Nat) (hq : Q w wx) (hr : w.heap.size ≤ r) (hlb : w.heap.size ≤ lb) (h : Hid (RollHas wx r lb m N W)) =>
    push_ok m N r lb K1 c1 A1 (· < w.heap.size) W l1 wx hm hl hN1 hN2 h.out (hs1.below hq) (fun b hb => ⟨Nat.lt_of_lt_of_le hb hq.size, fun h => by rcases h with h | h <;> omega⟩) hlk1 (by omega) hx1)
  have hp2 := Lib.hid (fun (wx : World) (r lb : Nat) (W : List Nat) (hq : Q w wx) (hr : w.heap.size ≤ r) (hlb : w.heap.size ≤ lb) (h : Hid (RollHas wx r lb m N W)) =>
    push_ok m N r lb K2 c2 A2 (· < w.heap.size) W l2 wx hm hl hN1 hN2 h.out (hs2.below hq) (fun b hb => ⟨Nat.lt_of_lt_of_le hb hq.size, fun h => by rcases h with h | h <;> omega⟩) hlk2 (by omega) hx2)
  -- a push of as many as the window has: the window is what came
  have hp3 := Lib.hid (fun (wx : World) (r lb : Nat) (W : List Nat) (hq : Q w wx) (hr : w.heap.size ≤ r) (hlb : w.heap.size ≤ lb) (h : RollHas wx r lb m N W) =>
    show Calls Try.prog 16 #[.pointer (some ⟨r, 0, none⟩), .slice A N c] wx fun e w' => e = .returned (.int .u64 (Pol.roll m 0 l : Nat)) ∧ RollHas w' r lb m N l ∧ Only (Own2 r lb) wx w' from by
    have hWl : W.length = N := by obtain ⟨_, _, _, _, _, _, h, _⟩ := h; exact h
    have h := push_ok m N r lb N c A (· < w.heap.size) W l wx hm hl hN1 hN2 h (hs.below hq) (fun b hb => ⟨Nat.lt_of_lt_of_le hb hq.size, fun h => by rcases h with h | h <;> omega⟩) hlk (by omega) hx
    rw [slide_full W l (by rintro rfl; simp at hWl; omega) (by omega)] at h
    exact h)
  clear hs1 hs2 hs hK1 hK2 hN hlk1 hlk2 hlk hx1 hx2 hx
  go_enter Try.func6, Try.ntmps6
  go_wp2_with (first
    | (refine gate 13 rfl ?_; refine wpList_min2 rfl (.tmp 12) (.const (.int .i64 200)) _ rfl .i64 n 200 N rfl rfl HN.out ?_)
    | (refine gate 14 rfl ?_; refine wpList_slice_hi rfl 23 (.tmp 9) (.tmp 13) rfl 5 Try.underlying23 i0 hi _ _ _ rfl .i64 N rfl k3 ?_)
    | (refine gate 57 rfl ?_; refine wpList_min2 rfl (.tmp 56) (.const (.int .i64 500)) _ rfl .i64 n1 500 K1 rfl rfl HK1.out ?_)
    | (refine gate 58 rfl ?_; refine wpList_slice_hi rfl 23 (.tmp 53) (.tmp 57) rfl 5 Try.underlying23 i0 hi _ _ _ rfl .i64 K1 rfl k1 ?_)
    | (refine gate 66 rfl ?_; refine wpList_min2 rfl (.tmp 65) (.const (.int .i64 500)) _ rfl .i64 n2 500 K2 rfl rfl HK2.out ?_)
    | (refine gate 67 rfl ?_; refine wpList_slice_hi rfl 23 (.tmp 62) (.tmp 66) rfl 5 Try.underlying23 i0 hi _ _ _ rfl .i64 K2 rfl k2 ?_)
    | (go_at_call 11; ((with_reducible refine (rolls_true _).mono ?_); rintro e w3 ⟨rfl, hq3⟩; have qA : Q w w3 := ((Q.refl w).alloc _).step hq3; have hlt3 : w.heap.size < w3.heap.size := Nat.lt_of_lt_of_le (by simp) hq3.size; have x0 : w3.cell? ⟨w.heap.size, 0, none⟩ = some (.int .u64 (m : Int)) := (by rw [hq3.cell (by simp)]; go_simp); have x1 : w3.cell? ⟨w.heap.size, 1, none⟩ = some (.slice A1 n1 c1) := (by rw [hq3.cell (by simp)]; go_simp); have x2 : w3.cell? ⟨w.heap.size, 2, none⟩ = some (.slice A2 n2 c2) := (by rw [hq3.cell (by simp)]; go_simp)))
    | (go_at_call 12; (with_reducible refine (right_yes _ _ hm hl).mono ?_); rintro e w4 ⟨rfl, hq4⟩; have qB : Q w w4 := qA.step hq4; have hlt4 : w.heap.size < w4.heap.size := Nat.lt_of_lt_of_le hlt3 hq4.size; have y0 : w4.cell? ⟨w.heap.size, 0, none⟩ = some (.int .u64 (m : Int)) := (hq4.cell hlt3).trans x0; have y1 := (hq4.cell (p := ⟨w.heap.size, 1, none⟩) hlt3).trans x1; have y2 := (hq4.cell (p := ⟨w.heap.size, 2, none⟩) hlt3).trans x2; clear x0 x1 x2 hq4)
    | (go_at_call 15; (with_reducible refine (new_ok m N _ hm hl hN1 hN2).mono ?_); first
        | (have _h := qC; rintro e w6 ⟨s, ls, rfl, s1, s2, s3, hq6⟩; have qD : Q w w6 := qC.step hq6; have R6 : Hid (RollHas w6 r lb m N (List.replicate N 0)) := R5.out.q hq6; have S6 := Lib.hid s3; have hRl := R5.out.lt; have hss1 : r < s ∧ lb < s ∧ r < ls ∧ lb < ls := (by omega); have hss : w.heap.size < s ∧ w.heap.size < ls := (by omega); have hlt6 : w.heap.size < w6.heap.size := Nat.lt_of_lt_of_le hlt5 hq6.size; have u0 := (hq6.cell (p := ⟨w.heap.size, 0, none⟩) hlt5).trans z0; have u1 := (hq6.cell (p := ⟨w.heap.size, 1, none⟩) hlt5).trans z1; have u2 := (hq6.cell (p := ⟨w.heap.size, 2, none⟩) hlt5).trans z2; clear s3 s1 s2 hq6 R5 hRl z0 z1 z2)
        | (rintro e w5 ⟨r, lb, rfl, r1, r2, r3, hq5⟩; have qC : Q w w5 := qB.step hq5; have R5 := Lib.hid r3; have hr : w.heap.size < r := Nat.lt_of_lt_of_le hlt4 r1; have hlb : w.heap.size < lb := Nat.lt_of_lt_of_le hlt4 r2; have hlt5 : w.heap.size < w5.heap.size := Nat.lt_of_lt_of_le hlt4 hq5.size; have z0 := (hq5.cell (p := ⟨w.heap.size, 0, none⟩) hlt4).trans y0; have z1 := (hq5.cell (p := ⟨w.heap.size, 1, none⟩) hlt4).trans y1; have z2 := (hq5.cell (p := ⟨w.heap.size, 2, none⟩) hlt4).trans y2; clear r3 r1 r2 hq5 y0 y1 y2))
    | (go_at_call 16; first
        | ((with_reducible refine (hp1.out _ r lb _ qD (by omega) (by omega) R6).mono ?_); rintro e w7 ⟨rfl, a1, a2⟩; have qE : Q w w7 := a2.q qD (fun k h => by rcases h with rfl | rfl <;> omega); have S7 : Hid (RollHas w7 s ls m N (List.replicate N 0)) := S6.out.only a2 (fun h => by rcases h with h | h <;> omega) (fun h => by rcases h with h | h <;> omega); have R7 := Lib.hid a1; have hlt7 : w.heap.size < w7.heap.size := Nat.lt_of_lt_of_le hlt6 a2.size; have v0 := (World.cell?_of_block (a := ⟨w.heap.size, 0, none⟩) (a2.block w.heap.size hlt6 (fun h => by rcases h with h | h <;> omega))).trans u0; have v2 := (World.cell?_of_block (a := ⟨w.heap.size, 2, none⟩) (a2.block w.heap.size hlt6 (fun h => by rcases h with h | h <;> omega))).trans u2; clear a1 a2 R6 S6 u0 u1 u2)
        | ((with_reducible refine (hp2.out _ s ls _ qE (by omega) (by omega) S7).mono ?_); rintro e w8 ⟨rfl, a1, a2⟩; have qF : Q w w8 := a2.q qE (fun k h => by rcases h with rfl | rfl <;> omega); have R8 : Hid (RollHas w8 r lb m N _) := R7.out.only a2 (fun h => by rcases h with h | h <;> omega) (fun h => by rcases h with h | h <;> omega); have S8 := Lib.hid a1; have hlt8 : w.heap.size < w8.heap.size := Nat.lt_of_lt_of_le hlt7 a2.size; have t0 := (World.cell?_of_block (a := ⟨w.heap.size, 0, none⟩) (a2.block w.heap.size hlt7 (fun h => by rcases h with h | h <;> omega))).trans v0; clear a1 a2 R7 S7 v0 v2)))
  have T8 : Hid (St w w8.drew m N r lb s ls _ _) := St.drew ⟨qF, R8.out, S8.out, t0, hlt8, by omega, by omega⟩
  have hsum := roll_le hm hm0.out (slide l [7, 9])
  have hlen := Pol.roll_len m hm0.out (slide l [7, 9]) 0 (by rw [Pol.len_zero]; omega)
  have hdl : decide ((Pol.len (Pol.roll m 0 (slide l [7, 9])) : Int) - 1 < (Pol.len m : Int) - 1) = true := decide_eq_true (by omega)
  clear R8 S8 t0 qF qE qD qC qB qA
  go_region_held3 (fun w' => w'.cell? ⟨w.heap.size, 0, none⟩ = some (.int .u64 (m : Int)))
    (first
      | exact T8.out.c
      | (dsimp only; first | assumption | exact (Tb.out.alloc _).c | exact ((Tb.out.alloc _).alloc _).c | exact (Tc.out.alloc _).c)
      | (first | assumption | exact (Tb.out.alloc _).c | exact ((Tb.out.alloc _).alloc _).c | exact (Tc.out.alloc _).c))
    (first
      | (go_at_call 16; first
        | ((with_reducible refine (hp3.out _ r lb _ T8.out.q (by omega) (by omega) T8.out.hr).mono ?_); rintro e wa ⟨rfl, a1, a2⟩; have Ta := Lib.hid (T8.out.pr a1 a2); have cMa := Ta.out.c; clear a1 a2)
        | ((with_reducible refine (hp3.out _ s ls _ Ta.out.q (by omega) (by omega) Ta.out.hs).mono ?_); rintro e wb ⟨rfl, a1, a2⟩; have Tb := Lib.hid (Ta.out.ps a1 a2); have cMb := Tb.out.c; have hWR := Tb.out.hr.lt; have hWS := Tb.out.hs.lt; clear a1 a2)
        | ((with_reducible refine (push_two m N r lb wb.heap.size l (wb.alloc _) hm hl hN1 hN2 (Tb.out.alloc _).hr (by simp) (Tb.out.newR (Nat.le_refl _)) (by go_simp) (by go_simp)).mono ?_); rintro e wc ⟨rfl, a1, a2⟩; have Tc := Lib.hid ((Tb.out.alloc _).pr a1 a2); have cMc := Tc.out.c; clear a1 a2)
        | ((with_reducible refine (push_two m N r lb wb.heap.size l ((wb.alloc _).alloc _) hm hl hN1 hN2 ((Tb.out.alloc _).alloc _).hr (by simp <;> omega) (Tb.out.newR (Nat.le_refl _)) (by go_simp) (by go_simp)).mono ?_); rintro e wc ⟨rfl, a1, a2⟩; have Tc := Lib.hid (((Tb.out.alloc _).alloc _).pr a1 a2); have cMc := Tc.out.c; have g0 := only_cell a2 (p := ⟨wb.heap.size + 1, 0, none⟩) (v := .int .u8 7) (by simp) (Tb.out.newR (g := wb.heap.size + 1) (by omega)) (by go_simp); have g1 := only_cell a2 (p := ⟨wb.heap.size + 1, 1, none⟩) (v := .int .u8 9) (by simp) (Tb.out.newR (g := wb.heap.size + 1) (by omega)) (by go_simp); have gl : wb.heap.size + 1 < wc.heap.size := Nat.lt_of_lt_of_le (by simp) a2.size; have gn : ¬ Own2 s ls (wb.heap.size + 1) := Tb.out.newS (by omega); clear a1 a2)
        | ((with_reducible refine (push_two m N r lb (wb.heap.size + 1) l ((wb.alloc _).alloc _) hm hl hN1 hN2 ((Tb.out.alloc _).alloc _).hr (by simp) (Tb.out.newR (by omega)) (by go_simp) (by go_simp)).mono ?_); rintro e wc ⟨rfl, a1, a2⟩; have Tc := Lib.hid (((Tb.out.alloc _).alloc _).pr a1 a2); have cMc := Tc.out.c; have g0 := only_cell a2 (p := ⟨wb.heap.size, 0, none⟩) (v := .int .u8 7) (by simp <;> omega) (Tb.out.newR (g := wb.heap.size) (Nat.le_refl _)) (by go_simp); have g1 := only_cell a2 (p := ⟨wb.heap.size, 1, none⟩) (v := .int .u8 9) (by simp <;> omega) (Tb.out.newR (g := wb.heap.size) (Nat.le_refl _)) (by go_simp); have gl : wb.heap.size < wc.heap.size := Nat.lt_of_lt_of_le (by simp <;> omega) a2.size; have gn : ¬ Own2 s ls wb.heap.size := Tb.out.newS (Nat.le_refl _); clear a1 a2)
        | ((with_reducible refine (push_two m N s ls wc.heap.size l (wc.alloc _) hm hl hN1 hN2 (Tc.out.alloc _).hs (by simp) (Tc.out.newS (Nat.le_refl _)) (by go_simp) (by go_simp)).mono ?_); rintro e wd ⟨rfl, a1, a2⟩; have Td := Lib.hid ((Tc.out.alloc _).ps a1 a2); have cMd := Td.out.c; clear a1 a2)
        | ((with_reducible refine (push_two m N s ls _ l wc hm hl hN1 hN2 Tc.out.hs gl gn g0 g1).mono ?_); rintro e wd ⟨rfl, a1, a2⟩; have Td := Lib.hid (Tc.out.ps a1 a2); have cMd := Td.out.c; clear a1 a2))
      | (go_at_call 17; (with_reducible refine (sum_ok Td.out.hr).mono ?_); rintro e we ⟨rfl, rfl⟩)
      | (go_at_call 18; (with_reducible refine (deg_nat _ _ hsum).mono ?_); rintro e we ⟨rfl, rfl⟩)
      | (go_at_call 19; (with_reducible refine (refDeg_nat _ _ hm).mono ?_); rintro e wf ⟨rfl, hqf⟩; have cMf := (Td.out.go hqf).c))
  all_goals (go_wp2; go_ret)
  all_goals exact ⟨rfl, (Td.out.go hqf).q⟩

theorem rollForgetful_true (a : Int) (wa : (Lit.int .u64 a).wf = true) (A1 : Option Addr) (n1 c1 : Nat) (z1 : List Int) (A2 : Option Addr) (n2 c2 : Nat) (z2 : List Int) (A : Option Addr) (n c : Nat) (zs : List Int) (w : World) (w1 : IsRow .u8 w A1 n1 c1 z1) (w2 : IsRow .u8 w A2 n2 c2 z2) (w3 : IsRow .u8 w A n c zs) :
    Calls Try.prog 6 #[.agg #[.int .u64 a, .slice A1 n1 c1, .slice A2 n2 c2, .slice A n c]] w fun e w' => e = .returned (.bool true) ∧ Below w.heap.size w w' := by
  obtain ⟨ha, ha'⟩ := wf64 wa
  obtain ⟨m, rfl⟩ := Int.eq_ofNat_of_zero_le ha
  obtain ⟨g1, g2, g3, g4, g5, _⟩ := row8 w1 (min n1 500) (by omega)
  obtain ⟨h1, h2, h3, h4, h5, _⟩ := row8 w2 (min n2 500) (by omega)
  obtain ⟨k1, k2, k3, k4, k5, _⟩ := row8 w3 (min n 200) (by omega)
  by_cases hl : 9 ≤ Pol.len m
  · by_cases hn : 1 ≤ n
    · exact rollForgetful_good m n1 c1 n2 c2 n c _ _ _ A1 A2 A _ _ _ w (by omega) hl g2 rfl g1 g3 g4 g5 h2 rfl h1 h3 h4 h5 k2 rfl k1 k3 k4 k5 hn
    · obtain rfl : n = 0 := by omega
      exact rollForgetful_none m n1 c1 n2 c2 c A1 A2 A w (by omega) hl
  · exact rollForgetful_bad m n1 c1 n2 c2 n c A1 A2 A w (by omega) (by omega) k4
end Go.Proofs.Ytphjmicbcalbkaa
