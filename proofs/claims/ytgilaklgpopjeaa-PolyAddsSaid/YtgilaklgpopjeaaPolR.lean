/- The walks through poly.Add and poly.Gcd, which take a row of polynomials, and Poly.Prime. -/
import Derived.Test.YtgilaklgpopjeaaPolW
import Derived.Test.YtgilaklgpopjeaaMem
namespace Go.Proofs.Ytgilaklgpopjeaa
open Go.RowKit

set_option maxHeartbeats 400000 in
theorem add_nat (A : Option Addr) (c B : Nat) (l : List Nat) (w : World) (h : Sees w B A (l.map P64)) (hl : l.length ≤ 9223372036854775807) (hx : ∀ x ∈ l, x ≤ 18446744073709551615) :
    Calls Try.prog 11 #[.slice A l.length c] w fun e w' => e = .returned (.int .u64 (Pol.sum l : Nat)) ∧ w = w' := by
  have H := Lib.hid h
  have HX := Lib.hid hx
  clear h hx
  go_enter Try.func11, Try.ntmps11
  go_wp2
  go_loop [3, 8] (fun s i => ∃ (k x : Nat), k ≤ l.length ∧ x ≤ 18446744073709551615 ∧ i = .int .i64 k ∧ s = .int .u64 x ∧ Hid (x = Pol.sum (l.take k))) (fun _ i => l.length - (intOf i).toNat)
  case atStart => exact ⟨0, 0, by omega, by omega, rfl, rfl, rfl⟩
  case round =>
    obtain ⟨k, x, hk, hxl, rfl, rfl, Hs⟩ := hrel
    by_cases hlt : k < l.length
    · obtain ⟨b, o, rfl, hb, hc⟩ := H.out.at_ (k := k) (u := P64 l[k]) (by simp [hlt])
      have hlk := HX.out l[k] (List.getElem_mem hlt)
      have hs : Hid (x ^^^ l[k] = Pol.sum (l.take (k + 1))) := by
        show _ = _
        rw [List.take_succ_eq_append_getElem hlt, Pol.sum_snoc, Hs.out]
      generalize l[k] = y at *
      have x1 := xor_nat hxl hlk
      have x2 := xor_le hxl hlk
      unfold P64 at hc
      go_wp2
      go_round
      case rel => exact ⟨k + 1, _, by omega, x2, by go_num, rfl, hs.out⟩
      case measure => simp [intOf]; omega
    · go_wp2
      go_ret
      have : k = l.length := by omega
      subst this
      exact ⟨by rw [Hs.out, List.take_length]; rfl, rfl⟩

set_option maxHeartbeats 1000000 in
theorem gcd_nat (A : Option Addr) (c B : Nat) (l : List Nat) (w : World) (h : Sees w B A (l.map P64)) (hl : l.length ≤ 9223372036854775807) (hx : ∀ x ∈ l, x ≤ 18446744073709551615) :
    Calls Try.prog 22 #[.slice A l.length c] w fun e w' => e = .returned (.int .u64 (Pol.gcdL l : Nat)) ∧ w = w' := by
  have H := Lib.hid h
  have HX := Lib.hid hx
  clear h hx
  go_enter Try.func22, Try.ntmps22
  go_wp2
  go_loop [3, 5, 6, 7, 8, 11] (fun s _ _ _ _ i => ∃ (k x : Nat), k ≤ l.length ∧ x ≤ 18446744073709551615 ∧ i = .int .i64 k ∧ s = .int .u64 x ∧ Hid (x = Pol.gcdL (l.take k))) (fun _ _ _ _ _ i => l.length - (intOf i).toNat)
  case atStart => exact ⟨0, 0, by omega, by omega, rfl, rfl, rfl⟩
  case round =>
    obtain ⟨k, x, hk, hxl, rfl, rfl, Hs⟩ := hrel
    by_cases hlt : k < l.length
    · obtain ⟨b, o, rfl, hb, hc⟩ := H.out.at_ (k := k) (u := P64 l[k]) (by simp [hlt])
      have hlk := HX.out l[k] (List.getElem_mem hlt)
      have hs : Hid (Pol.gcd x l[k] = Pol.gcdL (l.take (k + 1))) := by
        show _ = _
        rw [List.take_succ_eq_append_getElem hlt, Pol.gcdL_snoc, Hs.out]
      generalize l[k] = y at *
      unfold P64 at hc
      go_wp2
      go_loop [3, 5, 6, 7, 8] (fun g p _ _ _ => ∃ (u v : Nat), g = .int .u64 u ∧ p = .int .u64 v ∧ u ≤ 18446744073709551615 ∧ v ≤ 18446744073709551615 ∧ Hid (Pol.gcd u v = Pol.gcd x y)) (fun _ p _ _ _ => (intOf p).toNat)
      case atStart => exact ⟨x, y, rfl, rfl, hxl, hlk, rfl⟩
      case round =>
        obtain ⟨u, v, rfl, rfl, hu, hv, Hg⟩ := hrel
        by_cases h0 : v = 0
        · have hd : ((v : Int) != 0) = false := by subst h0; rfl
          have e1 : Hid (u = Pol.gcdL (l.take (k + 1))) := by show _ = _; rw [← hs.out, ← Hg.out, h0, Pol.gcd_zero]
          clear h0
          go_wp2
          go_round
          case rel => exact ⟨k + 1, u, by omega, hu, by go_num, rfl, e1.out⟩
          case measure => simp [intOf]; omega
        · have hd : ((v : Int) != 0) = true := by rw [bne_iff_ne]; omega
          have HD := Lib.hid (div_nat u v w hu (by omega) hv)
          have e1 : Hid (Pol.gcd v (Pol.mod u v) = Pol.gcd x y) := by show _ = _; rw [← Pol.gcd_step u h0, Hg.out]
          have e2 := mod_le (a := u) h0 hv
          have e3 := Pol.lt_of_len_lt (Pol.mod_len u h0)
          clear h0
          go_wp2_with (refine HD.out.mono ?_; rintro e w' ⟨rfl, rfl⟩)
          go_round
          case rel => exact ⟨v, _, rfl, rfl, hv, e2, e1.out⟩
          case measure => simp only [intOf, Int.toNat_natCast]; exact e3
    · go_wp2
      go_ret
      have : k = l.length := by omega
      subst this
      exact ⟨by rw [Hs.out, List.take_length]; rfl, rfl⟩

/-- A row of two cells. -/
theorem sees_two {w : World} {g : Nat} {u v : Value} (h0 : w.cell? ⟨g, 0, none⟩ = some u) (h1 : w.cell? ⟨g, 1, none⟩ = some v) : Sees w (g + 1) (some ⟨g, 0, none⟩) [u, v] := fun _ =>
  ⟨g, 0, rfl, by omega, fun j x hx => by
    match j, hx with
    | 0, hx => simp at hx; subst hx; exact h0
    | 1, hx => simp at hx; subst hx; exact h1⟩
theorem add_two (x y : Nat) (g : Nat) (w : World) (hx : x ≤ 18446744073709551615) (hy : y ≤ 18446744073709551615) (h0 : w.cell? ⟨g, 0, none⟩ = some (.int .u64 (x : Int))) (h1 : w.cell? ⟨g, 1, none⟩ = some (.int .u64 (y : Int))) :
    Calls Try.prog 11 #[.slice (some ⟨g, 0, none⟩) 2 2] w fun e w' => e = .returned (.int .u64 (x ^^^ y : Nat)) ∧ w = w' :=
  (add_nat _ 2 _ [x, y] _ (sees_two h0 h1) (by simp) (by simp [hx, hy])).mono fun e w' h => by simpa [Pol.sum] using h
theorem add_x (x : Nat) (g : Nat) (w : World) (hx : x ≤ 18446744073709551615) (h0 : w.cell? ⟨g, 0, none⟩ = some (.int .u64 (x : Int))) (h1 : w.cell? ⟨g, 1, none⟩ = some (.int .u64 2)) :
    Calls Try.prog 11 #[.slice (some ⟨g, 0, none⟩) 2 2] w fun e w' => e = .returned (.int .u64 (x ^^^ 2 : Nat)) ∧ w = w' := add_two x 2 g w hx (by omega) h0 h1
theorem gcd_two (x y : Nat) (g : Nat) (w : World) (hx : x ≤ 18446744073709551615) (hy : y ≤ 18446744073709551615) (h0 : w.cell? ⟨g, 0, none⟩ = some (.int .u64 (x : Int))) (h1 : w.cell? ⟨g, 1, none⟩ = some (.int .u64 (y : Int))) :
    Calls Try.prog 22 #[.slice (some ⟨g, 0, none⟩) 2 2] w fun e w' => e = .returned (.int .u64 (Pol.gcd x y : Nat)) ∧ w = w' :=
  (gcd_nat _ 2 _ [x, y] _ (sees_two h0 h1) (by simp) (by simp [hx, hy])).mono fun e w' h => by simpa [Pol.gcdL, Pol.zero_gcd] using h

/-- A literal row of two that was just made. -/
theorem add_lit (x y g : Nat) (t : TypeId) (w : World) (hg : g = w.heap.size) (hx : x ≤ 18446744073709551615) (hy : y ≤ 18446744073709551615) :
    Calls Try.prog 11 #[.slice (some ⟨g, 0, none⟩) 2 2] (w.alloc (.cells #[.int .u64 (x : Int), .int .u64 (y : Int)] t)) fun e w' => e = .returned (.int .u64 (x ^^^ y : Nat)) ∧ w.alloc (.cells #[.int .u64 (x : Int), .int .u64 (y : Int)] t) = w' := by
  subst hg
  exact add_two x y _ _ hx hy (by go_simp) (by go_simp)

set_option maxHeartbeats 1000000 in
theorem prime_nat (p : Nat) (w : World) (hp : p ≤ 18446744073709551615) :
    Calls Try.prog 23 #[.int .u64 (p : Int)] w fun e w' => e = .returned (.bool (Pol.isPrime p)) ∧ Below w.heap.size w w' := by
  have HD := Lib.hid (deg_nat p w hp)
  have hl := Pol.len_le64 hp
  by_cases h2 : Pol.len p < 3
  · by_cases h1 : Pol.len p = 2
    · have hd : (((Pol.len p : Int) - 1) == 1) = true := by rw [h1]; rfl
      have hz : Hid (Pol.isPrime p = true) := Pol.isPrime_true.2 (.inl h1)
      clear h1
      go_enter Try.func23, Try.ntmps23
      go_wp2_with (refine HD.out.mono ?_; rintro e w' ⟨rfl, rfl⟩)
      go_ret
      exact ⟨by rw [hz.out]; rfl, Below.refl _ _⟩
    · have hd : (((Pol.len p : Int) - 1) == 1) = false := by rw [beq_eq_false_iff_ne]; omega
      have hz : Hid (Pol.isPrime p = false) := Pol.isPrime_false.2 (by rintro (h | h) <;> omega)
      go_enter Try.func23, Try.ntmps23
      go_wp2_with (refine HD.out.mono ?_; rintro e w' ⟨rfl, rfl⟩)
      go_ret
      exact ⟨by rw [hz.out]; rfl, Below.refl _ _⟩
  · have hp0 := Lib.hid (Pol.len_pos.1 (show 0 < Pol.len p by omega))
    have hp1 : 1 ≤ p := by have := hp0.out; omega
    go_enter Try.func23, Try.ntmps23
    go_wp2_with (refine HD.out.mono ?_; rintro e w' ⟨rfl, rfl⟩)
    go_loopw [4, 13] (fun x i wr => ∃ (k y : Nat), k ≤ (Pol.len p - 1) / 2 ∧ i = .int .i64 k ∧ x = .int .u64 y ∧ y ≤ 18446744073709551615 ∧ Hid (y = Pol.sq p k ∧ ∀ j, 1 ≤ j → j ≤ k → Pol.gcd (Pol.sq p j ^^^ 2) p = 1) ∧ Below w.heap.size w wr) (fun _ i _ => 64 - (intOf i).toNat)
    case atStart => exact ⟨0, 2, by omega, rfl, rfl, by omega, ⟨rfl, fun j h1 h2 => by omega⟩, Below.refl _ _⟩
    case round =>
      obtain ⟨k, y, hk, rfl, rfl, hy, H, hbel⟩ := hrel
      by_cases hlt : k < (Pol.len p - 1) / 2
      · have HM := Lib.hid (fun w => mulMod_nat y y p w hy hy hp1 hp)
        have e1 : Hid (Pol.mod (Pol.mul y y) p = Pol.sq p (k + 1)) := by show _ = _; rw [Pol.sq, H.out.1]
        have e2 := mod_le (a := Pol.mul y y) hp0.out hp
        generalize Pol.mod (Pol.mul y y) p = z at *
        have e3 : z ^^^ 2 ≤ 18446744073709551615 := xor_le e2 (by omega)
        have HA := Lib.hid (fun g w => add_x z g w e2)
        have HG := Lib.hid (fun g w => gcd_two (z ^^^ 2) p g w e3 hp)
        by_cases hg : Pol.gcd (z ^^^ 2) p = 1
        · have hd : ((Pol.gcd (z ^^^ 2) p : Nat) != (1 : Int)) = false := by rw [hg]; rfl
          have Hg := Lib.hid hg
          clear hg
          go_wp2_with (first
            | (go_at_call 19; (with_reducible refine (HM.out _).mono ?_); rintro e w' ⟨rfl, rfl⟩)
            | (go_at_call 11; (with_reducible refine (HA.out _ _ (by go_simp) (by go_simp)).mono ?_); rintro e w' ⟨rfl, rfl⟩)
            | (go_at_call 22; (with_reducible refine (HG.out _ _ (by go_simp) (by go_simp)).mono ?_); rintro e w' ⟨rfl, rfl⟩))
          go_roundw
          case rel => exact ⟨k + 1, z, by omega, by go_num, rfl, e2, ⟨e1.out, fun j h1 h3 => by
            by_cases hj : j = k + 1
            · rw [hj, ← e1.out]; exact Hg.out
            · exact H.out.2 j h1 (by omega)⟩, (hbel.alloc hbel.size _).alloc (by have := hbel.size; simp; omega) _⟩
          case measure => simp [intOf]; omega
        · have hd : ((Pol.gcd (z ^^^ 2) p : Nat) != (1 : Int)) = true := by rw [bne_iff_ne]; omega
          have hn : Hid (Pol.isPrime p = false) := Pol.isPrime_false.2 (by
            rintro (h | h)
            · omega
            · exact hg (by rw [e1.out]; exact h.2 (k + 1) (by omega) (by omega)))
          clear hg
          go_wp2_with (first
            | (go_at_call 19; (with_reducible refine (HM.out _).mono ?_); rintro e w' ⟨rfl, rfl⟩)
            | (go_at_call 11; (with_reducible refine (HA.out _ _ (by go_simp) (by go_simp)).mono ?_); rintro e w' ⟨rfl, rfl⟩)
            | (go_at_call 22; (with_reducible refine (HG.out _ _ (by go_simp) (by go_simp)).mono ?_); rintro e w' ⟨rfl, rfl⟩))
          go_ret
          exact ⟨by rw [hn.out]; rfl, (hbel.alloc hbel.size _).alloc (by have := hbel.size; simp; omega) _⟩
      · go_wp2
        go_ret
        have hk' : k = (Pol.len p - 1) / 2 := by omega
        have : Hid (Pol.isPrime p = true) := Pol.isPrime_true.2 (.inr ⟨by omega, fun i h1 h3 => H.out.2 i h1 (by omega)⟩)
        exact ⟨by rw [this.out]; rfl, hbel⟩
#print axioms add_nat
end Go.Proofs.Ytgilaklgpopjeaa
