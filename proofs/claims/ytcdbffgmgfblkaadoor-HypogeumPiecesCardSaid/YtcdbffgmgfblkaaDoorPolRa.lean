/- The walks through poly.Add, which takes a row of polynomials. -/
import Derived.Test.YtcdbffgmgfblkaaDoorPolW
import Derived.Test.YtcdbffgmgfblkaaDoorMem
namespace Go.Proofs.YtcdbffgmgfblkaaDoor
set_option linter.unusedVariables false
set_option linter.unusedSimpArgs false
open Go.RowKit

set_option maxHeartbeats 400000 in
theorem add_nat (A : Option Addr) (c B : Nat) (l : List Nat) (w : World) (h : Sees w B A (l.map P64)) (hl : l.length ≤ 9223372036854775807) (hx : ∀ x ∈ l, x ≤ 18446744073709551615) :
    Calls Tryd.prog 64 #[.slice A l.length c] w fun e w' => e = .returned (.int .u64 (Pol.sum l : Nat)) ∧ w = w' := by
  have H := Lib.hid h
  have HX := Lib.hid hx
  clear h hx
  go_enter Tryd.func64, Tryd.ntmps64
  go_wp2
  go_loop [3, 8] (fun s i => ∃ (k x : Nat), k ≤ l.length ∧ x ≤ 18446744073709551615 ∧ i = .int .i64 k ∧ s = .int .u64 x ∧ Hid (x = Pol.sum (l.take k))) (fun _ i => l.length - (intOf i).toNat)
  case atStart => exact ⟨0, 0, by omega, by omega, rfl, rfl, rfl⟩
  case round =>
    obtain ⟨k, x, hk, hxl, rfl, rfl, Hs⟩ := hrel
    by_cases hlt : k < l.length
    · obtain ⟨b, o, rfl, hb, hc⟩ := H.out.at_ (k := k) (u := P64 l[k]) (by simp [hlt])
      have hlk := HX.out l[k] (List.getElem_mem hlt)
      have hs : Hid (x ^^^ l[k] = Pol.sum (l.take (k + 1))) := by
        show _ = _
        rw [List.take_succ_eq_append_getElem hlt, Pol.sum_snoc, Hs.out]
      generalize l[k] = y at *
      have x1 := xor_nat hxl hlk
      have x2 := xor_le hxl hlk
      unfold P64 at hc
      go_wp2
      go_round
      case rel => exact ⟨k + 1, _, by omega, x2, by go_num, rfl, hs.out⟩
      case measure => simp [intOf]; omega
    · go_wp2
      go_ret
      have : k = l.length := by omega
      subst this
      exact ⟨by rw [Hs.out, List.take_length]; rfl, rfl⟩

/-- A row of two cells. -/
theorem sees_two {w : World} {g : Nat} {u v : Value} (h0 : w.cell? ⟨g, 0, none⟩ = some u) (h1 : w.cell? ⟨g, 1, none⟩ = some v) : Sees w (g + 1) (some ⟨g, 0, none⟩) [u, v] := fun _ =>
  ⟨g, 0, rfl, by omega, fun j x hx => by
    match j, hx with
    | 0, hx => simp at hx; subst hx; exact h0
    | 1, hx => simp at hx; subst hx; exact h1⟩
theorem add_two (x y : Nat) (g : Nat) (w : World) (hx : x ≤ 18446744073709551615) (hy : y ≤ 18446744073709551615) (h0 : w.cell? ⟨g, 0, none⟩ = some (.int .u64 (x : Int))) (h1 : w.cell? ⟨g, 1, none⟩ = some (.int .u64 (y : Int))) :
    Calls Tryd.prog 64 #[.slice (some ⟨g, 0, none⟩) 2 2] w fun e w' => e = .returned (.int .u64 (x ^^^ y : Nat)) ∧ w = w' :=
  (add_nat _ 2 _ [x, y] _ (sees_two h0 h1) (by simp) (by simp [hx, hy])).mono fun e w' h => by simpa [Pol.sum] using h
theorem add_x (x : Nat) (g : Nat) (w : World) (hx : x ≤ 18446744073709551615) (h0 : w.cell? ⟨g, 0, none⟩ = some (.int .u64 (x : Int))) (h1 : w.cell? ⟨g, 1, none⟩ = some (.int .u64 2)) :
    Calls Tryd.prog 64 #[.slice (some ⟨g, 0, none⟩) 2 2] w fun e w' => e = .returned (.int .u64 (x ^^^ 2 : Nat)) ∧ w = w' := add_two x 2 g w hx (by omega) h0 h1
/-- A literal row of two that was just made. -/
theorem add_lit (x y g : Nat) (t : TypeId) (w : World) (hg : g = w.heap.size) (hx : x ≤ 18446744073709551615) (hy : y ≤ 18446744073709551615) :
    Calls Tryd.prog 64 #[.slice (some ⟨g, 0, none⟩) 2 2] (w.alloc (.cells #[.int .u64 (x : Int), .int .u64 (y : Int)] t)) fun e w' => e = .returned (.int .u64 (x ^^^ y : Nat)) ∧ w.alloc (.cells #[.int .u64 (x : Int), .int .u64 (y : Int)] t) = w' := by
  subst hg
  exact add_two x y _ _ hx hy (by go_simp) (by go_simp)

theorem add_lit3 (x y z g : Nat) (t : TypeId) (w : World) (hg : g = w.heap.size) (hx : x ≤ 18446744073709551615) (hy : y ≤ 18446744073709551615) (hz : z ≤ 18446744073709551615) :
    Calls Tryd.prog 64 #[.slice (some ⟨g, 0, none⟩) 3 3] (w.alloc (.cells #[.int .u64 (x : Int), .int .u64 (y : Int), .int .u64 (z : Int)] t)) fun e w' => e = .returned (.int .u64 (x ^^^ y ^^^ z : Nat)) ∧ w.alloc (.cells #[.int .u64 (x : Int), .int .u64 (y : Int), .int .u64 (z : Int)] t) = w' := by
  subst hg
  exact (add_nat _ 3 _ [x, y, z] _ (SeesP.new w [P64 x, P64 y, P64 z] t) (by simp) (by simp [hx, hy, hz])).mono fun e w' h => by simpa [P64, Pol.sum] using h
end Go.Proofs.YtcdbffgmgfblkaaDoor
