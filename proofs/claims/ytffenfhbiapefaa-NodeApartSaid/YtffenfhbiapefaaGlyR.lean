/- The walks through the document's answer of chapter 06: Begin, Num, Text. -/
import Derived.Test.YtffenfhbiapefaaGly
import Derived.Test.YtffenfhbiapefaaStrC
namespace Go.Proofs.Ytffenfhbiapefaa
set_option linter.unusedVariables false
set_option linter.unusedSimpArgs false
open Go.RowKit

/-- What a call leaves that hands a string back. -/
def GivesStr (w : World) (L : List Nat) (e : Ending) (w' : World) : Prop := e = .returned (.string (strB L)) ∧ Q w w'
set_option maxHeartbeats 4000000 in
set_option maxRecDepth 100000 in
theorem rnum_ok (n : Nat) (hn : n < 9223372036854775808) (w : World) : Calls Try.prog 30 #[.int .i64 (n : Int)] w (GivesStr w (numL n)) := by
  have hlen : (numL n).length ≤ 9 := numL_len n 8 (by omega)
  have HL := Lib.hid hlen
  have H0 : Hid (([] : List Nat) ++ numL n = numL n) := rfl
  have hn63 : (n : Int) ≤ 9223372036854775807 := by omega
  clear hlen hn
  go_enter Try.func30, Try.ntmps30
  go_wp2_with fail
  go_loopw [0, 3] (fun x s wr => ∃ (m : Nat) (M : List Nat), x = .int .i64 m ∧ (m : Int) ≤ 9223372036854775807 ∧ s = .string (strB M) ∧ Hid (M ++ numL m = numL n) ∧ Q w wr) (fun x _ _ => (intOf x).toNat)
  case atStart => exact ⟨n, [], rfl, hn63, rfl, H0, Q.refl w⟩
  case round =>
    obtain ⟨m, M, rfl, hm, rfl, HM, hq⟩ := hrel
    have hMl : M.length ≤ 9 := by have h1 := congrArg List.length HM.out; have h2 := HL.out; rw [List.length_append] at h1; omega
    by_cases hb : 128 ≤ m
    · obtain ⟨y, hy⟩ : ∃ y, y = m % 128 + 128 := ⟨_, rfl⟩
      have hyI : (m : Int) % 128 + 128 = (y : Int) := by omega
      have HY : Hid (numL m = y :: numL (m / 128)) := by show _ = _; rw [numL_big hb, hy]
      have hk := run_one_string wr y
      have hadd := run_add_strB (P := Try.prog) M [y] (by simp; omega)
      have hy2 : y ≤ 255 := by omega
      clear hy
      go_wp2_with fail
      go_roundw
      case rel => exact ⟨m / 128, M ++ [y], by go_num, by omega, rfl, by show _ = _; rw [List.append_assoc, ← HM.out, HY.out]; rfl, hq.alloc _⟩
      case measure => simp [intOf]; omega
    · have HY : Hid (numL m = [m]) := numL_small (by omega)
      have hk := run_one_string wr m
      have hadd := run_add_strB (P := Try.prog) M [m] (by simp; omega)
      go_wp2_with fail
      go_ret
      exact ⟨by rw [← HM.out, HY.out]; rfl, hq.alloc _⟩
theorem rnumZ (z : Int) (w : World) (h0 : 0 ≤ z) (h1 : z < 9223372036854775808) : Calls Try.prog 30 #[.int .i64 z] w (GivesStr w (numL z.toNat)) := by
  obtain ⟨n, rfl⟩ := Int.eq_ofNat_of_zero_le h0
  exact rnum_ok n (by omega) w
set_option maxHeartbeats 1000000 in
set_option maxRecDepth 100000 in
theorem rbegin_ok (k : Nat) (hk : k ≤ 255) (w : World) : Calls Try.prog 29 #[.int .u8 (k : Int)] w (GivesStr w [72, 89, k]) := by
  have hk1 := run_one_string w k
  have hadd : ∀ w, (Op.stringOp .add ⟨#[72, 89]⟩ (strB [k])).run Try.prog w = .ok (.string (strB [72, 89, k])) w := run_add_strB (P := Try.prog) [72, 89] [k] (by simp)
  go_enter Try.func29, Try.ntmps29
  go_wp2_with fail
  go_ret
  exact ⟨rfl, (Q.refl w).alloc _⟩
set_option maxHeartbeats 1000000 in
set_option maxRecDepth 100000 in
theorem rtext_ok (s : ByteArray) (hs : s.size ≤ 500000000) (w : World) : Calls Try.prog 31 #[.string s] w (GivesStr w (numL s.size ++ bytesOf s)) := by
  have hn := Lib.hid (rnum_ok s.size (by omega) w)
  have hadd : ∀ w, (Op.stringOp .add (strB (numL s.size)) s).run Try.prog w = .ok (.string (strB (numL s.size ++ bytesOf s))) w := fun w => by
    have h := run_add_strB (P := Try.prog) (numL s.size) (bytesOf s) (by have h1 := numL_nine (n := s.size) (by omega); rw [bytesOf_len]; omega) w
    rw [strB_bytesOf] at h; exact h
  go_enter Try.func31, Try.ntmps31
  go_wp2_with (go_at_call 30; go_loud ((with_reducible refine hn.out.mono ?_); rintro e w1 ⟨rfl, h1⟩; have H1 := Lib.hid h1; clear h1))
  go_ret
  exact ⟨rfl, H1.out⟩
end Go.Proofs.Ytffenfhbiapefaa
