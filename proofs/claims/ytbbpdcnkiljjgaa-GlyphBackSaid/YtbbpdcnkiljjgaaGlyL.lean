/- GlyphLess. -/
import Derived.Test.YtbbpdcnkiljjgaaGlyE
import Derived.Lib.SlicesS
namespace Go.Proofs.Ytbbpdcnkiljjgaa
set_option linter.unusedVariables false
set_option linter.unusedSimpArgs false
open Go.RowKit

theorem mod62 (a : Int) : ∃ x : Nat, wrap64 ((IntKind.u64.wrap a).tmod 4611686018427387904) = (x : Int) ∧ x < 4611686018427387904 := by
  have h : IntKind.u64.wrap a = a % 18446744073709551616 := by simp [IntKind.wrap, IntKind.bits, IntKind.signed]
  have h0 : 0 ≤ IntKind.u64.wrap a := by omega
  rw [Int.tmod_eq_emod_of_nonneg h0, h]
  refine ⟨(a % 18446744073709551616 % 4611686018427387904).toNat, ?_, by omega⟩
  unfold wrap64
  omega

theorem Q.trans' {w w1 w2 : World} (h : Q w w1) (k : Q w1 w2) : Q w w2 := h.step k
set_option maxHeartbeats 16000000 in
set_option maxRecDepth 100000 in
theorem less_ok (a b : Int) (s : ByteArray) (hs : s.size ≤ 9223372036854775807) (w : World) : Calls Try.prog 5 #[.int .i64 a, .int .i64 b, .string s] w fun e w' => e = .returned (.bool true) ∧ Hid (Q w w') := by
  have hb := fun w => Lib.hid (beginZ w 1 1 rfl (by omega))
  have hgl := fun w => Lib.hid (glyphs_ok w)
  obtain ⟨x, hx, hx2⟩ := mod62 a
  obtain ⟨y, hy, hy2⟩ := mod62 b
  obtain ⟨t, ht⟩ : ∃ t, s.extract 0 (min (s.size : Int) 1000).toNat = t := ⟨_, rfl⟩
  have ht2 : t.size ≤ 1000 := by rw [← ht, ByteArray.size_extract]; omega
  obtain ⟨m, hm⟩ : ∃ m, m = min x y := ⟨_, rfl⟩
  obtain ⟨M, hM⟩ : ∃ M, M = max x y := ⟨_, rfl⟩
  have hm' : min (x : Int) (y : Int) = (m : Int) := by omega
  have hM' : max (x : Int) (y : Int) = (M : Int) := by omega
  have hm2 : m < 4611686018427387904 := by omega
  have hM2 : M < 4611686018427387904 := by omega
  have hl1 := numL_mono (show m ≤ M by omega)
  have hl9 := numL_nine hM2
  have hbl := bytesOf_len t
  have hfl : ∀ y, (flagL y).length = 1 := fun y => rfl
  have hl12 : ((numL M).length : Int) + 1 + 1 + 1 ≤ 12 := by omega
  have hsz : wrap64 (((numL t.size).length : Int) + 1 + 1 + 1 + (t.size : Int)) = ((numL t.size).length : Int) + (t.size : Int) + 1 + 1 + 1 := by
    have := numL_nine (n := t.size) (by omega)
    unfold wrap64; omega
  have hse : ((strB (72 :: 89 :: 1 :: numL m)).toList == (strB (72 :: 89 :: 1 :: numL M)).toList) = ((x : Int) == (y : Int)) := by
    rw [eq_comm, Bool.eq_iff_iff, beq_iff_eq, Lib.bytes_beq_iff]
    have hby : ∀ n, ∀ z ∈ 72 :: 89 :: 1 :: numL n, z ≤ 255 := by
      intro n z hz
      simp only [List.mem_cons] at hz
      rcases hz with rfl | rfl | rfl | hz
      · omega
      · omega
      · omega
      · exact numL_byte _ _ hz
    constructor
    · intro h
      have : m = M := by omega
      rw [this]
    · intro h
      have := strB_inj (hby _) (hby _) h
      simp only [List.cons.injEq, true_and] at this
      have := numL_inj this
      omega
  have HSZ := Lib.hid hsz
  have HSE := Lib.hid hse
  have HL12 := Lib.hid hl12
  have HL1 := Lib.hid hl1
  clear hsz hse hl12 hl1 hl9
  have HM := Lib.hid (And.intro hm hM)
  clear hm hM
  go_enter Try.func5, Try.ntmps5
  go_wp2_with (first
    | (go_at_call 11; (try rw [hx, hy]); go_loud ((with_reducible refine (hb _).out.mono ?_); rintro e w1 ⟨g, rfl, H1⟩))
    | (go_at_call 14; (with_reducible refine (numIn H1 (m : Int) (by omega) (by omega) (by omega)).mono ?_); rintro e w2 ⟨rfl, H21⟩; rw [Int.toNat_natCast] at H21)
    | (go_at_call 14; (with_reducible refine (numIn H1 (M : Int) (by omega) (by omega) (by omega)).mono ?_); rintro e w2 ⟨rfl, H22⟩; rw [Int.toNat_natCast] at H22)
    | (go_at_call 14; (with_reducible refine (numIn H1 (t.size : Int) (by omega) (by omega) (by omega)).mono ?_); rintro e w2 ⟨rfl, H24⟩; rw [Int.toNat_natCast] at H24)
    | (go_at_call 16; go_loud ((with_reducible refine (textIn H1 t (by omega) (by omega)).mono ?_); rintro e w2 ⟨rfl, H23⟩))
    | (go_at_call 18; go_loud ((with_reducible refine (flagIn H1 _ (by omega)).mono ?_); rintro e w2 ⟨rfl, H25⟩))
    | (go_at_call 9; (with_reducible refine (bytesIn H21 (by omega)).mono ?_); rintro e w31 ⟨A1, cp1, rfl, X1⟩)
    | (go_at_call 9; (with_reducible refine (bytesIn H22 (by omega)).mono ?_); rintro e w32 ⟨A2, cp2, rfl, X2⟩)
    | (go_at_call 9; (with_reducible refine (bytesIn H23 (by omega)).mono ?_); rintro e w33 ⟨A3, cp3, rfl, X3⟩)
    | (go_at_call 9; (with_reducible refine (bytesIn H24 (by omega)).mono ?_); rintro e w34 ⟨A4, cp4, rfl, X4⟩)
    | (go_at_call 9; (with_reducible refine (bytesIn H25 (by omega)).mono ?_); rintro e w35 ⟨A5, cp5, rfl, X5⟩)
    | (go_at_call 10; go_loud ((with_reducible refine (hgl _).out.mono ?_); rintro e w4 ⟨rfl, HG⟩; have hsz := HSZ.out; have hse := HSE.out; have hl12 := HL12.out; have hl1 := HL1.out; have hk1 := (X1.out.q ((X2.out.2.1).trans' (X3.out.2.1.trans' (X4.out.2.1.trans' (X5.out.2.1.trans' HG.out))))).string (n := (numL m).length + 1 + 1 + 1) (by simp); have hk2 := (X2.out.q (X3.out.2.1.trans' (X4.out.2.1.trans' (X5.out.2.1.trans' HG.out)))).string (n := (numL M).length + 1 + 1 + 1) (by simp))))
  go_ret
  exact ⟨rfl, Lib.hid (X1.out.2.1.trans' (X2.out.2.1.trans' (X3.out.2.1.trans' (X4.out.2.1.trans' (X5.out.2.1.trans' HG.out)))))⟩
theorem less_true (a : Int) (_ : (Lit.int .i64 a).wf = true) (b : Int) (_ : (Lit.int .i64 b).wf = true) (s : ByteArray) (hs : s.size ≤ maxLen) (w : World) :
    Calls Try.prog 5 #[.int .i64 a, .int .i64 b, .string s] w fun e w' => e = .returned (.bool true) ∧ Below w.heap.size w w' :=
  (less_ok a b s (by simp only [maxLen] at hs; omega) w).mono fun e w' ⟨h1, h2⟩ => ⟨h1, h2.out⟩
end Go.Proofs.Ytbbpdcnkiljjgaa
