/- The walk through the law RollParts. -/
import Derived.Test.YtphjmicbcalbkaaRollS
namespace Go.Proofs.Ytphjmicbcalbkaa
set_option linter.unusedVariables false
set_option linter.unusedSimpArgs false
open Go.RowKit

theorem big54 : Pol.len 17349423945073011 = 54 := Pol.big_len

set_option maxHeartbeats 8000000 in
set_option maxRecDepth 100000 in
theorem rollParts_nat (n c K k N m U V U2 : Nat) (M C : Int) (A : Option Addr) (l : List Nat) (w : World) (hmm : m = 17349423945073011)
    (eu : IntKind.u64.wrap M = (U : Int)) (ev : (U : Int).tmod 100 = (V : Int)) (hV : V < 100) (eN : 1 + (V : Int) = (N : Int)) (eu2 : IntKind.u64.wrap C = (U2 : Int)) (ev2 : (U2 : Int).tmod ((K : Int) + 1) = (k : Int)) (hkK : k ≤ K)
    (hs : SeesP w (· < w.heap.size) A (l.map B8)) (hK : K = min n 500) (hlk : l.length = K) (hx : ∀ x ∈ l, x ≤ 255) (hnc : n ≤ c) (hcm : c ≤ 9223372036854775807) :
    Calls Try.prog 8 #[.int .i64 M, .slice A n c, .int .i64 C] w fun e w' => e = .returned (.bool true) ∧ Q w w' := by
  obtain ⟨i0, hi, hz0, hz1, hz2⟩ := info_parts info8
  have HK := Lib.hid hK
  have hK1 : K ≤ c := by omega
  have hK2 : K ≤ 500 := by omega
  have hKn : K ≤ n := by omega
  have hkc : k ≤ c := by omega
  have hN1 : 1 ≤ N := by omega
  have hN2 : N ≤ 1024 := by omega
  have hm : m ≤ 18446744073709551615 := by omega
  have hl : 9 ≤ Pol.len m := by rw [hmm, big54]; omega
  have hm0 := Lib.hid (Pol.len_pos.1 (show 0 < Pol.len m by omega))
  have hnew := Lib.hid (fun (wx : World) => show Calls Try.prog 15 #[.int .u64 17349423945073011, .int .i64 (N : Int)] wx fun e w' => ∃ r lb, e = .returned (.tuple #[.pointer (some ⟨r, 0, none⟩), .int .i64 0]) ∧ wx.heap.size ≤ r ∧ wx.heap.size ≤ lb ∧ RollHas w' r lb m N (List.replicate N 0) ∧ Q wx w' from by
    have h := new_ok m N wx hm hl hN1 hN2
    subst hmm
    exact h)
  have hZ0 := Lib.hid (roll_zeros0 m hm0.out N)
  have hsl := Lib.hid (show slide (slide (List.replicate N 0) (l.take k)) (l.drop k) = slide (List.replicate N 0) l by rw [← slide_append, List.take_append_drop])
  -- what a push of the whole, of the head, of the tail, of nothing asks
  have hp1 := Lib.hid (fun (wx : World) (r lb : Nat) (W : List Nat) (hq : Q w wx) (hr : w.heap.size ≤ r) (hlb : w.heap.size ≤ lb) (h : Hid (RollHas wx r lb m N W)) =>
    push_ok m N r lb K c A (· < w.heap.size) W l wx hm hl hN1 hN2 h.out (hs.below hq) (fun b hb => ⟨Nat.lt_of_lt_of_le hb hq.size, fun h => by rcases h with h | h <;> omega⟩) hlk (by omega) hx)
  have hp2 := Lib.hid (fun (wx : World) (r lb : Nat) (W : List Nat) (hq : Q w wx) (hr : w.heap.size ≤ r) (hlb : w.heap.size ≤ lb) (h : Hid (RollHas wx r lb m N W)) =>
    push_ok m N r lb k c A (· < w.heap.size) W (l.take k) wx hm hl hN1 hN2 h.out (by have := (hs.below hq).take k; rwa [← List.map_take] at this) (fun b hb => ⟨Nat.lt_of_lt_of_le hb hq.size, fun h => by rcases h with h | h <;> omega⟩) (by rw [List.length_take]; omega) (by omega) (fun x hx' => hx x (List.mem_of_mem_take hx')))
  have hp3 := Lib.hid (fun (wx : World) (r lb : Nat) (hq : Q w wx) (hr : w.heap.size ≤ r) (hlb : w.heap.size ≤ lb) (h : Hid (RollHas wx r lb m N (slide (List.replicate N 0) (l.take k)))) =>
    show Calls Try.prog 16 #[.pointer (some ⟨r, 0, none⟩), .slice (cutA A c k 1) (K - k) (c - k)] wx fun e w' => e = .returned (.int .u64 (Pol.roll m 0 (slide (List.replicate N 0) l) : Nat)) ∧ RollHas w' r lb m N (slide (List.replicate N 0) l) ∧ Only (Own2 r lb) wx w' from by
    have h := push_ok m N r lb (K - k) (c - k) (cutA A c k 1) (· < w.heap.size) _ (l.drop k) wx hm hl hN1 hN2 h.out (by have := (hs.below hq).cut (c := c) (l := k) (s := 1) (by rw [List.length_map]; omega); rwa [Nat.mul_one, ← List.map_drop] at this) (fun b hb => ⟨Nat.lt_of_lt_of_le hb hq.size, fun h => by rcases h with h | h <;> omega⟩) (by rw [List.length_drop]; omega) (by omega) (fun x hx' => hx x (List.mem_of_mem_drop hx'))
    rw [hsl.out] at h
    exact h)
  have hp0 := Lib.hid (fun (wx : World) (r lb : Nat) (W : List Nat) (h : Hid (RollHas wx r lb m N W)) =>
    show Calls Try.prog 16 #[.pointer (some ⟨r, 0, none⟩), .slice none 0 0] wx fun e w' => e = .returned (.int .u64 (Pol.roll m 0 W : Nat)) ∧ RollHas w' r lb m N W ∧ Only (Own2 r lb) wx w' from
    push_ok m N r lb 0 0 none (fun _ => False) W [] wx hm hl hN1 hN2 h.out (SeesP.nil _ _ _) (fun b hb => hb.elim) rfl (by omega) (by simp))
  clear hK hmm hs hlk hx
  go_enter Try.func8, Try.ntmps8
  go_wp2_with (first
    | (refine gate 23 rfl ?_; refine wpList_min2 rfl (.tmp 22) (.const (.int .i64 500)) _ rfl .i64 n 500 K rfl rfl HK.out ?_)
    | (refine gate 24 rfl ?_; refine wpList_slice_hi rfl 23 (.tmp 20) (.tmp 23) rfl 5 Try.underlying23 i0 hi _ _ _ rfl .i64 K rfl hK1 ?_)
    | (refine gate 59 rfl ?_; refine wpList_slice_hi rfl 23 (.tmp 57) (.tmp 58) rfl 5 Try.underlying23 i0 hi _ _ _ rfl .i64 k rfl hkc ?_)
    | (refine gate 66 rfl ?_; refine wpList_slice_lo rfl 23 (.tmp 64) (.tmp 65) rfl 5 Try.underlying23 i0 hi 1 hz1 _ _ _ rfl .i64 k rfl hkK ?_)
    | (go_at_call 11; (with_reducible refine (rolls_true _).mono ?_); rintro e w3 ⟨rfl, hq3⟩; have qC : Q w w3 := qB.step hq3; have R3 : Hid (RollHas w3 r lb m N (List.replicate N 0)) := R2.out.q hq3; have S3 : Hid (RollHas w3 s ls m N (List.replicate N 0)) := S2.out.q hq3; clear hq3 R2 S2)
    | (go_at_call 15; (with_reducible refine (hnew.out _).mono ?_); first
        | (have _h := qH; rintro e w9 ⟨t, lt, rfl, t1, t2, t3, hq9⟩; have qI : Q w w9 := qH.step hq9; have R9 : Hid (RollHas w9 r lb m N (List.replicate N 0)) := R8.out.q hq9; have T9 := Lib.hid t3; have hRl8 := R8.out.lt; have ht1 : r < t ∧ lb < t ∧ r < lt ∧ lb < lt := (by omega); have ht : w.heap.size ≤ t ∧ w.heap.size ≤ lt := (by have := qH.size; omega); clear t3 t1 t2 hq9 R8 hRl8)
        | (have _h := qA; rintro e w2 ⟨s, ls, rfl, s1, s2, s3, hq2⟩; have qB : Q w w2 := qA.step hq2; have R2 : Hid (RollHas w2 r lb m N (List.replicate N 0)) := R1.out.q hq2; have S2 := Lib.hid s3; have hRl := R1.out.lt; have hs1 : r < s ∧ lb < s ∧ r < ls ∧ lb < ls := (by omega); have hs : w.heap.size ≤ s ∧ w.heap.size ≤ ls := (by have := qA.size; omega); clear s3 s1 s2 hq2 R1 hRl)
        | (rintro e w1 ⟨r, lb, rfl, r1, r2, r3, hq1⟩; have qA : Q w w1 := hq1; have R1 := Lib.hid r3; have hr : w.heap.size ≤ r := r1; have hlb : w.heap.size ≤ lb := r2; clear r3 r1 r2 hq1))
    | (go_at_call 16; first
        | ((with_reducible refine (hp1.out _ r lb _ qC hr hlb R3).mono ?_); rintro e w4 ⟨rfl, a1, a2⟩; have qD : Q w w4 := a2.q qC (fun k h => by rcases h with rfl | rfl <;> assumption); have S4 : Hid (RollHas w4 s ls m N (List.replicate N 0)) := S3.out.only a2 (fun h => by rcases h with h | h <;> omega) (fun h => by rcases h with h | h <;> omega); have R4 := Lib.hid a1; clear a1 a2 R3 S3)
        | ((with_reducible refine (hp2.out _ s ls _ qD hs.1 hs.2 S4).mono ?_); rintro e w5 ⟨rfl, a1, a2⟩; have qE : Q w w5 := a2.q qD (fun k h => by rcases h with rfl | rfl <;> omega); have R5 : Hid (RollHas w5 r lb m N (slide (List.replicate N 0) l)) := R4.out.only a2 (fun h => by rcases h with h | h <;> omega) (fun h => by rcases h with h | h <;> omega); have S5 := Lib.hid a1; clear a1 a2 R4 S4)
        | ((with_reducible refine (hp0.out _ s ls _ S5).mono ?_); rintro e w6 ⟨rfl, a1, a2⟩; have qF : Q w w6 := a2.q qE (fun k h => by rcases h with rfl | rfl <;> omega); have R6 : Hid (RollHas w6 r lb m N (slide (List.replicate N 0) l)) := R5.out.only a2 (fun h => by rcases h with h | h <;> omega) (fun h => by rcases h with h | h <;> omega); have S6 := Lib.hid a1; clear a1 a2 R5 S5)
        | ((with_reducible refine (hp3.out _ s ls qF hs.1 hs.2 S6).mono ?_); rintro e w7 ⟨rfl, a1, a2⟩; have qG : Q w w7 := a2.q qF (fun k h => by rcases h with rfl | rfl <;> omega); have R7 : Hid (RollHas w7 r lb m N (slide (List.replicate N 0) l)) := R6.out.only a2 (fun h => by rcases h with h | h <;> omega) (fun h => by rcases h with h | h <;> omega); clear a1 a2 R6 S6)
        | ((with_reducible refine (hp0.out _ r lb _ R7).mono ?_); rintro e w7b ⟨rfl, a1, a2⟩; have qG2 : Q w w7b := a2.q qG (fun k h => by rcases h with rfl | rfl <;> omega); have R7b := Lib.hid a1; clear a1 a2 R7)
        | ((with_reducible refine (hp1.out _ r lb _ qI hr hlb R9).mono ?_); rintro e w10 ⟨rfl, a1, a2⟩; have qJ : Q w w10 := a2.q qI (fun k h => by rcases h with rfl | rfl <;> assumption); have T10 : Hid (RollHas w10 t lt m N (List.replicate N 0)) := T9.out.only a2 (fun h => by rcases h with h | h <;> omega) (fun h => by rcases h with h | h <;> omega); clear a1 a2 R9 T9)
        | ((with_reducible refine (hp1.out _ t lt _ qJ ht.1 ht.2 T10).mono ?_); rintro e w11 ⟨rfl, a1, a2⟩; have qK : Q w w11 := a2.q qJ (fun k h => by rcases h with rfl | rfl <;> omega); clear a1 a2 T10))
    | (go_at_call 17; first
        | ((with_reducible refine (sum_ok R7.out).mono ?_); rintro e wq ⟨rfl, rfl⟩)
        | ((with_reducible refine (sum_ok R9.out).mono ?_); rw [hZ0.out]; rintro e wq ⟨rfl, rfl⟩))
    | (go_at_call 21; (with_reducible refine (clear_ok m N r lb _ _ hm0.out hN1 R7b.out).mono ?_); rintro e w8 ⟨rfl, a1, a2⟩; have qH : Q w w8 := a2.q qG2 (fun k h => by rcases h with rfl | rfl <;> omega); have R8 := Lib.hid a1; clear a1 a2 R7b))
  go_ret
  exact ⟨rfl, qK⟩

theorem wrap_nat (M : Int) : ∃ U : Nat, IntKind.u64.wrap M = (U : Int) := by
  refine ⟨(IntKind.u64.wrap M).toNat, ?_⟩
  rw [IntKind.wrap_u64]; omega
theorem tmod_nat (U d : Nat) (h : 0 < d) : (U : Int).tmod (d : Int) = ((U % d : Nat) : Int) := by
  rw [Int.tmod_eq_emod_of_nonneg (by omega)]; norm_cast

theorem rollParts_true (M : Int) (wM : (Lit.int .i64 M).wf = true) (A : Option Addr) (n c : Nat) (zs : List Int) (C : Int) (wC : (Lit.int .i64 C).wf = true) (w : World) (wA : IsRow .u8 w A n c zs) :
    Calls Try.prog 8 #[.int .i64 M, .slice A n c, .int .i64 C] w fun e w' => e = .returned (.bool true) ∧ Below w.heap.size w w' := by
  obtain ⟨h1, h2, h3, h4, h5, h6⟩ := row8 wA (min n 500) (by omega)
  obtain ⟨U, hU⟩ := wrap_nat M
  obtain ⟨U2, hU2⟩ := wrap_nat C
  have e1 := tmod_nat U 100 (by omega)
  have e2 := tmod_nat U2 (min n 500 + 1) (by omega)
  have l1 := Nat.mod_lt U (show 100 > 0 by omega)
  have l2 := Nat.mod_lt U2 (show min n 500 + 1 > 0 by omega)
  exact rollParts_nat n c (min n 500) _ (1 + U % 100) _ U (U % 100) U2 M C A _ w rfl hU e1 l1 (by omega) hU2 (by rw [← e2]; congr 1) (by omega) h2 rfl h1 h3 h4 h5
end Go.Proofs.Ytphjmicbcalbkaa
