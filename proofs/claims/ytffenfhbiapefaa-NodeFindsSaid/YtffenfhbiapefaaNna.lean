/- The walks through IsName, the program's and the document's. -/
import Derived.Test.YtffenfhbiapefaaRst
import Derived.Test.YtffenfhbiapefaaBts
namespace Go.Proofs.Ytffenfhbiapefaa
set_option linter.unusedVariables false
set_option linter.unusedSimpArgs false
open Go.RowKit

/-- May an item be called so? -/
def nameB (s : ByteArray) : Bool := decide (¬ s.toList = [] ∧ (s.size : Int) ≤ 255 ∧ ¬ s.toList = [46] ∧ ¬ s.toList = [46, 46]) && !hasBad s
theorem ret_bool {a b : Bool} (h : a = b) : Ending.returned (.bool a) = .returned (.bool b) := by rw [h]
set_option maxHeartbeats 2000000 in
set_option maxRecDepth 100000 in
theorem isName_ok (s : ByteArray) (w : World) (hs : s.size ≤ 9223372036854775807) :
    Calls Try.prog 14 #[.string s] w fun e w' => e = .returned (.bool (nameB s)) ∧ Q w w' := by
  have HC := Lib.hid (fun w (h : s.size < 4294967281) => (show Calls Try.prog 28 #[.string s, .string ⟨#[47, 0]⟩] w fun e w' => e = .returned (.bool (hasBad s)) ∧ Q w w' from containsAny_any s w h))
  obtain ⟨bad, hbad⟩ : ∃ b, b = hasBad s := ⟨_, rfl⟩
  rw [← hbad] at HC
  have HB := Lib.hid hbad
  clear hbad
  go_enter Try.func14, Try.ntmps14
  go_wp2_with (go_at_call 28; go_loud ((with_reducible refine (HC.out _ (by omega)).mono ?_); rintro e w1 ⟨rfl, hq⟩; have HQ := Lib.hid hq; clear hq))
  all_goals
    go_ret
    refine ⟨ret_bool ?_, by first | exact Q.refl _ | exact HQ.out⟩
    unfold nameB
    rw [← HB.out]
    simp [*]
    try omega
theorem nameB_bad {s : ByteArray} (h : hasBad s = true) : nameB s = false := by unfold nameB; rw [h]; simp
theorem any_at {l : List UInt8} {k : Nat} {x : UInt8} {p : UInt8 → Bool} (h : l.take (k + 1) = l.take k ++ [x]) (hx : p x = true) : l.any p = true := by
  rw [List.any_eq_true]
  exact ⟨x, List.mem_of_mem_take (i := k + 1) (by rw [h]; simp), hx⟩
set_option maxHeartbeats 2000000 in
set_option maxRecDepth 100000 in
theorem refIsName_ok (s : ByteArray) (w : World) (hs : s.size ≤ 9223372036854775807) :
    Calls Try.prog 15 #[.string s] w fun e w' => e = .returned (.bool (nameB s)) ∧ Q w w' := by
  obtain ⟨l, hl⟩ : ∃ l, l = s.data.toList := ⟨_, rfl⟩
  have hbad : hasBad s = l.any fun x => x == 47 || x == 0 := by rw [hl]; exact hasBad_iff s
  have hget : ∀ k (h : k < s.size), l[k]? = some s[k] := fun k h => by rw [hl]; exact Lib.data_getElem? s k h
  have hlen : l.length = s.size := by rw [hl]; exact (Lib.size_eq s).symm
  have HB := Lib.hid hbad
  have HGT := Lib.hid hget
  have HLN := Lib.hid hlen
  clear hl hbad hget hlen
  go_enter Try.func15, Try.ntmps15
  go_wp2_with fail
  all_goals (first
    | (go_ret; refine ⟨ret_bool ?_, Q.refl _⟩; unfold nameB; simp [*]; done)
    | (go_ret; rename_i a b; refine ⟨ret_bool ?_, Q.refl _⟩; unfold nameB; rw [decide_eq_false (fun hh => absurd hh.2.1 (by omega))]; rfl)
    | (go_ret; rename_i a b c d; have h46 : s.toList = [46, 46] := (by
        rcases d with ((d | d) | d) | d
        · exact absurd (List.isEmpty_iff.1 d) a
        · omega
        · exact absurd (beq_iff_eq.1 d) c
        · exact beq_iff_eq.1 d); refine ⟨ret_bool ?_, Q.refl _⟩; unfold nameB; rw [h46]; simp; done)
    | skip)
  have HA : Hid (¬ s.toList = [] ∧ (s.size : Int) ≤ 255 ∧ ¬ s.toList = [46] ∧ ¬ s.toList = [46, 46]) := Lib.hid (by simp_all)
  go_loop [3] (fun i => ∃ k : Nat, k ≤ s.size ∧ i = .int .i64 k ∧ Hid ((l.take k).any (fun x => x == 47 || x == 0) = false)) (fun i => s.size - (intOf i).toNat)
  case atStart => exact ⟨0, by omega, rfl, by show _ = _; simp⟩
  case round =>
    obtain ⟨k, hk, rfl, HK⟩ := hrel
    by_cases hlt : k < s.size
    · obtain ⟨x, hx⟩ : ∃ x, s[k] = x := ⟨_, rfl⟩
      have hxl := HGT.out k hlt
      rw [hx] at hxl
      have HX := Lib.hid hxl
      have hst : l.take (k + 1) = l.take k ++ [x] := by rw [List.take_add_one, hxl]; rfl
      have HST := Lib.hid hst
      clear hxl hst
      by_cases h47 : x = 47
      · have b1 : ((x.toNat : Int) == 47) = true := by rw [h47]; rfl
        go_wp2_with fail
        go_ret
        refine ⟨ret_bool ?_, Q.refl _⟩
        rw [nameB_bad (HB.out.trans (any_at HST.out (by rw [h47]; rfl)))]
      · have b47 : ((x.toNat : Int) == 47) = false := beq_eq_false_iff_ne.2 (fun h => h47 (UInt8.toNat_inj.1 (show x.toNat = (47 : UInt8).toNat by have : (47 : UInt8).toNat = 47 := rfl; omega)))
        by_cases h0 : x = 0
        · have b0 : ((x.toNat : Int) == 0) = true := by rw [h0]; rfl
          go_wp2_with fail
          go_ret
          refine ⟨ret_bool ?_, Q.refl _⟩
          rw [nameB_bad (HB.out.trans (any_at HST.out (by rw [h0]; rfl)))]
        · have b0 : ((x.toNat : Int) == 0) = false := beq_eq_false_iff_ne.2 (fun h => h0 (UInt8.toNat_inj.1 (show x.toNat = (0 : UInt8).toNat by have : (0 : UInt8).toNat = 0 := rfl; omega)))
          go_wp2_with fail
          go_round
          case rel => exact ⟨k + 1, by omega, by go_num, by show _ = _; rw [HST.out, List.any_append, HK.out]; simp [h47, h0]⟩
          case measure => simp [intOf]; omega
    · obtain rfl : k = s.size := by omega
      go_wp2_with fail
      go_ret
      refine ⟨ret_bool ?_, Q.refl _⟩
      unfold nameB
      have h := HK.out
      rw [List.take_of_length_le (by rw [HLN.out]; exact Nat.le_refl _)] at h
      rw [HB.out, h, decide_eq_true HA.out]
      rfl
end Go.Proofs.Ytffenfhbiapefaa
