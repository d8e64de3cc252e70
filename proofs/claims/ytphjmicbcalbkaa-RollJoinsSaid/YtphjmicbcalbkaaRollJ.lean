/- The walk through the law RollJoins. -/
import Derived.Test.YtphjmicbcalbkaaRollM
import Derived.Test.YtphjmicbcalbkaaZer
namespace Go.Proofs.Ytphjmicbcalbkaa
set_option linter.unusedVariables false
set_option linter.unusedSimpArgs false
open Go.RowKit

set_option maxHeartbeats 4000000 in
set_option maxRecDepth 100000 in
theorem rollJoins_bad (m : Nat) (A B : Option Addr) (n c n' c' k k' : Nat) (w : World) (hm : m ≤ 18446744073709551615) (hl : Pol.len m < 9) (hk : min (n : Int) 200 = k) (hk' : min (n' : Int) 200 = k') (h1 : (k : Int) ≤ c) (h2 : (k' : Int) ≤ c') :
    Calls Try.prog 5 #[.int .u64 (m : Int), .slice A n c, .slice B n' c'] w fun e w' => e = .returned (.bool true) ∧ Q w w' := by
  have h3 : (0 : Int) ≤ k := by omega
  have h4 : (0 : Int) ≤ k' := by omega
  go_enter Try.func5, Try.ntmps5
  go_wp2_with fail
  go_quiet (fail)
  go_wp2_with (first
    | (go_at_call 12; (with_reducible refine (right_no _ _ hm hl).mono ?_); rintro e w1 ⟨rfl, hq1⟩)
    | (go_at_call 11; (with_reducible refine (rolls_true _).mono ?_); rintro e w5 ⟨rfl, hq5⟩))
  go_ret
  exact ⟨rfl, (by repeat (first | exact Q.refl _ | refine Q.step ?_ (by assumption) | apply Q.alloc | apply Q.drewN) : Q w _)⟩
theorem joins_law (m : Nat) (hl : 9 ≤ Pol.len m) (l r : List Nat) :
    Pol.mod (Pol.mul (Pol.roll m 0 l) (Pol.roll m 0 (1 :: List.replicate r.length 0))) m ^^^ Pol.roll m 0 r = Pol.roll m 0 (l ++ r) := by
  have hm0 : m ≠ 0 := Pol.len_pos.1 (by omega)
  have h1 : Pol.nxt m 0 1 = 1 := by
    unfold Pol.nxt
    rw [Nat.zero_mul, Nat.zero_xor]
    exact Pol.mod_of_lt (by rw [show Pol.len 1 = 1 from by rw [← Pol.clen_eq]; decide +kernel]; omega)
  rw [Pol.roll_cons, h1, Pol.roll_zeros m _ 1 (by rw [show Pol.len 1 = 1 from by rw [← Pol.clen_eq]; decide +kernel]; omega), Nat.one_mul, Pol.mod_mul_right, Pol.mul_pow, Pol.roll_append]
  exact (Pol.roll_from m _ r (Pol.roll_len m hm0 l 0 (by rw [Pol.len_zero]; omega))).symm

set_option maxHeartbeats 8000000 in
set_option maxRecDepth 100000 in
theorem rollJoins_good (m : Nat) (A B : Option Addr) (n c n' c' k k' : Nat) (l r : List Nat) (w : World) (hm : m ≤ 18446744073709551615) (hl : 9 ≤ Pol.len m)
    (hs : SeesP w (· < w.heap.size) A (l.map B8)) (hr : SeesP w (· < w.heap.size) B (r.map B8)) (hk : min (n : Int) 200 = k) (hk' : min (n' : Int) 200 = k') (h1 : (k : Int) ≤ c) (h2 : (k' : Int) ≤ c') (hlk : l.length = k) (hrk : r.length = k') (hx : ∀ x ∈ l, x ≤ 255) (hy : ∀ x ∈ r, x ≤ 255)
    (hA : A = none → c = 0) (hB : B = none → c' = 0) :
    Calls Try.prog 5 #[.int .u64 (m : Int), .slice A n c, .slice B n' c'] w fun e w' => e = .returned (.bool true) ∧ Q w w' := by
  obtain ⟨i0, hi, hz0, hz1, hz2⟩ := info_parts info8
  have HS := Lib.hid hs
  have HR := Lib.hid hr
  have HA := Lib.hid hA
  have HB := Lib.hid hB
  have HL := Lib.hid hlk
  have HRL := Lib.hid hrk
  have h3 : (0 : Int) ≤ k := by omega
  have h4 : (0 : Int) ≤ k' := by omega
  have h5 : k ≤ 200 := by omega
  have h6 : k' ≤ 200 := by omega
  have hm0 : m ≠ 0 := Pol.len_pos.1 (by omega)
  have hm1 : 1 ≤ m := by omega
  have hP1 := Lib.hid (fun (w' : World) (hq : Q w w') => show Calls Try.prog 9 #[.int .u64 (m : Int), .slice A k c] w' fun e w2 => e = .returned (.tuple #[.int .u64 (Pol.roll m 0 l : Nat), .int .i64 0]) ∧ Q w' w2 by
    subst hlk; exact of_ok m A c (· < w.heap.size) l w' hm hl (HS.out.below hq) (fun g hg => Nat.lt_of_lt_of_le hg hq.size) (by omega) hx)
  have hP2 := Lib.hid (fun (w' : World) (hq : Q w w') => show Calls Try.prog 9 #[.int .u64 (m : Int), .slice B k' c'] w' fun e w2 => e = .returned (.tuple #[.int .u64 (Pol.roll m 0 r : Nat), .int .i64 0]) ∧ Q w' w2 by
    subst hrk; exact of_ok m B c' (· < w.heap.size) r w' hm hl (HR.out.below hq) (fun g hg => Nat.lt_of_lt_of_le hg hq.size) (by omega) hy)
  have hP3 := Lib.hid (fun (v : Value) (w' : World) (h : w'.ownsRow w.heap.size 5 1 v (0 + k + k') ([] ++ l.map B8 ++ r.map B8)) => show ∃ A1 c1, v = .slice A1 (0 + k + k') c1 ∧ Calls Try.prog 9 #[.int .u64 (m : Int), .slice A1 (k + k') c1] w' fun e w2 => e = .returned (.tuple #[.int .u64 (Pol.roll m 0 (l ++ r) : Nat), .int .i64 0]) ∧ Q w' w2 by
    obtain ⟨A1, c1, rfl, _, hs1⟩ := SeesP.of_own h
    refine ⟨A1, c1, rfl, ?_⟩
    rw [List.nil_append, ← List.map_append] at hs1
    have h := of_ok m A1 c1 (fun b => w.heap.size ≤ b ∧ b < w'.heap.size) (l ++ r) w' hm hl hs1 (fun g hg => hg.2) (by rw [List.length_append]; omega) (fun x hx' => by
      rw [List.mem_append] at hx'
      rcases hx' with h | h
      · exact hx x h
      · exact hy x h)
    rw [show (l ++ r).length = k + k' by rw [List.length_append]; omega] at h
    exact h)
  have hP4 := Lib.hid (fun (v : Value) (w' : World) (h : w'.ownsRow w.heap.size 5 1 v (1 + k') ([B8 1] ++ List.replicate k' (B8 0))) => show ∃ A1 c1, v = .slice A1 (1 + k') c1 ∧ Calls Try.prog 9 #[.int .u64 (m : Int), .slice A1 (1 + k') c1] w' fun e w2 => e = .returned (.tuple #[.int .u64 (Pol.roll m 0 (1 :: List.replicate r.length 0) : Nat), .int .i64 0]) ∧ Q w' w2 by
    obtain ⟨A1, c1, rfl, _, hs1⟩ := SeesP.of_own h
    refine ⟨A1, c1, rfl, ?_⟩
    rw [hrk]
    have h := of_ok m A1 c1 (fun b => w.heap.size ≤ b ∧ b < w'.heap.size) (1 :: List.replicate k' 0) w' hm hl (by simpa using hs1) (fun g hg => hg.2) (by simp; omega) (fun x hx' => by
      simp at hx'
      omega)
    rw [show (1 :: List.replicate k' 0).length = 1 + k' by simp; omega] at h
    exact h)
  have hlaw := joins_law m hl l r
  have hp1 := roll_le hm hm0 l
  have hp2 := roll_le hm hm0 r
  have hp3 := roll_le hm hm0 (l ++ r)
  have hp4 := roll_le hm hm0 (1 :: List.replicate r.length 0)
  generalize Pol.roll m 0 l = p1 at *
  generalize Pol.roll m 0 r = p2 at *
  generalize Pol.roll m 0 (l ++ r) = p3 at *
  generalize Pol.roll m 0 (1 :: List.replicate r.length 0) = p4 at *
  have hp5 := mod_le (a := Pol.mul p1 p4) hm0 hm
  have hMM := Lib.hid (fun w' => mulMod_nat p1 p4 m w' hp1 hp4 hm1 hm)
  generalize Pol.mod (Pol.mul p1 p4) m = p5 at *
  have hbe : (((p5 ^^^ p2 : Nat) : Int) == (p3 : Int)) = true := by rw [hlaw]; exact beq_self_eq_true _
  clear hs hr hx hy hA hB hlk hrk hlaw
  go_enter Try.func5, Try.ntmps5
  go_wp2_with fail
  go_quiet (fail)
  have hqz : Q w (w.drewN nq) := (Q.refl w).drewN nq
  generalize w.drewN nq = wz at *
  clear hk hk'
  go_wp2_with (first
    | (go_at_call 12; (with_reducible refine (right_yes _ _ hm hl).mono ?_); rintro e w2 ⟨rfl, hq2⟩; have hqb : Q w w2 := hqa.step hq2)
    | (go_at_call 11; (with_reducible refine (rolls_true _).mono ?_); rintro e w1 ⟨rfl, hq1⟩; have hqa : Q w w1 := hqz.step hq1)
    | (go_at_call 9; first
        | ((with_reducible refine (hP1.out _ hqb).mono ?_); rintro e w3 ⟨rfl, hq3⟩; have hqc : Q w w3 := hqb.step hq3)
        | ((with_reducible refine (hP2.out _ hqc).mono ?_); rintro e w4 ⟨rfl, hq4⟩; have hqd : Q w w4 := hqc.step hq4)
        | ((with_reducible refine HC6.out.mono ?_); rintro e w7 ⟨rfl, hq7⟩; have hqg : Q w w7 := hqf.step hq7; clear HC6 hqf)
        | ((with_reducible refine HC8.out.mono ?_); rintro e w9 ⟨rfl, hq9⟩; have hqi : Q w w9 := hqh.step hq9))
    | (at_builtin; refine gate 51 rfl ?_; refine wpList_append_sees rfl (.tmp 49) (.tmp 50) 23 rfl w.heap.size 5 i0 (.int .u8 0) 1 Try.underlying23 hi hz0 hz1 hz2 rfl _ _ _ rfl (own_base (own_new w4 5 [] (by decide)) hqd.size) (· < w.heap.size) A k c (l.map B8) rfl HA.out (by simp [HL.out]) (HS.out.below (hqd.alloc _)) (B8_one _) (by simp only [maxLen]; simp; omega) (by simp; omega) (hqd.alloc _).size ?_; intro v5 w5 hown5 hg5 _ _; have hqe : Q w w5 := Q.grown (hqd.alloc _) (own_base (own_new w4 5 [] (by decide)) hqd.size) hg5; have H5 := Lib.hid hown5; clear hown5 hg5)
    | (at_builtin; refine gate 53 rfl ?_; refine wpList_append_sees rfl (.tmp 51) (.tmp 52) 23 rfl w.heap.size 5 i0 (.int .u8 0) 1 Try.underlying23 hi hz0 hz1 hz2 rfl _ _ _ rfl H5.out (· < w.heap.size) B k' c' (r.map B8) rfl HB.out (by simp [HRL.out]) (HR.out.below hqe) (B8_one _) (by simp only [maxLen]; simp; omega) (by simp; omega) hqe.size ?_; intro v6 w6 hown6 hg6 _ _; have hqf : Q w w6 := Q.grown hqe H5.out hg6; obtain ⟨A6, c6, rfl, HC⟩ := hP3.out _ _ hown6; have HC6 := Lib.hid HC; clear hown6 hg6 HC)
    | (at_builtin; refine gate 62 rfl ?_; refine wpList_append_zeros rfl (.tmp 59) (.tmp 61) 23 3 rfl w.heap.size 5 i0 (.int .u8 0) 1 .i64 .i64 Try.underlying23 Try.underlying3 hi hz0 hz1 hz2 rfl rfl _ _ _ rfl (own_base (own_new w7 5 [B8 1] (by decide)) hqg.size) k' rfl (by simp only [maxLen]; simp; omega) (by simp; omega) (hqg.alloc _).size ?_; intro v8 w8 hown8 hg8; have hqh : Q w w8 := Q.grown (hqg.alloc _) (own_base (own_new w7 5 [B8 1] (by decide)) hqg.size) hg8; obtain ⟨A8, c8, rfl, HC⟩ := hP4.out _ _ hown8; have HC8 := Lib.hid HC; clear hown8 hg8 HC)
    | (go_at_call 14; (with_reducible refine (hMM.out _).mono ?_); rintro e w' ⟨rfl, rfl⟩)
    | (go_at_call 13; (with_reducible refine (add_lit _ _ _ _ _ (by simp) (by assumption) (by assumption)).mono ?_); rintro e w' ⟨rfl, rfl⟩))
  go_ret
  exact ⟨rfl, hqi.alloc _⟩

theorem rollJoins_true (a : Int) (wa : (Lit.int .u64 a).wf = true) (A : Option Addr) (n c : Nat) (zs : List Int) (B : Option Addr) (n' c' : Nat) (zs' : List Int) (w : World) (wA : IsRow .u8 w A n c zs) (wB : IsRow .u8 w B n' c' zs') :
    Calls Try.prog 5 #[.int .u64 a, .slice A n c, .slice B n' c'] w fun e w' => e = .returned (.bool true) ∧ Below w.heap.size w w' := by
  obtain ⟨ha, ha'⟩ := wf64 wa
  obtain ⟨m, rfl⟩ := Int.eq_ofNat_of_zero_le ha
  obtain ⟨h1, h2, h3, h4, h5, h6⟩ := row8 wA (min n 200) (by omega)
  obtain ⟨g1, g2, g3, g4, g5, g6⟩ := row8 wB (min n' 200) (by omega)
  by_cases hl : 9 ≤ Pol.len m
  · exact rollJoins_good m A B n c n' c' _ _ _ _ w (by omega) hl h2 g2 (by omega) (by omega) (by omega) (by omega) h1 g1 h3 g3 h6 g6
  · exact rollJoins_bad m A B n c n' c' (min n 200) (min n' 200) w (by omega) (by omega) (by omega) (by omega) (by omega) (by omega)
end Go.Proofs.Ytphjmicbcalbkaa
