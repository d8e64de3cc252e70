/- The walks through the document's answers of chapter 3: lists of coefficients, products, rests. -/
import Derived.Test.YtgilaklgpopjeaaPolW
import Derived.Test.YtgilaklgpopjeaaMem
namespace Go.Proofs.Ytgilaklgpopjeaa
open Go.RowKit

/-- The lowest n coefficients, as a list has them. -/
def bitsL (p n : Nat) : List Value := (List.range n).map fun i => .bool (p.testBit i)
theorem bitsL_get {p n i : Nat} (h : i < n) : (bitsL p n)[i]? = some (.bool (p.testBit i)) := by simp [bitsL, h]
theorem bitsL_len (p n : Nat) : (bitsL p n).length = n := by simp [bitsL]
theorem bitsL_snoc (p n : Nat) : bitsL p (n + 1) = bitsL p n ++ [.bool (p.testBit n)] := by simp [bitsL, List.range_succ]

theorem infoBool : (Try.prog.info? 4).map (fun i => (i.zero, i.size, i.bytes)) = some (some (.bool false), 1, 1) := by kernel_rfl

theorem testBit_div (p k : Nat) : (((p / 2 ^ k : Nat) : Int) % 2 == 1) = p.testBit k := by
  rw [Nat.testBit_eq_decide_div_mod_eq]
  rcases Nat.mod_two_eq_zero_or_one (p / 2 ^ k) with h | h
  · have : ((p / 2 ^ k : Nat) : Int) % 2 = 0 := by
      show ((p / 2 ^ k % 2 : Nat) : Int) = 0
      rw [h]; rfl
    rw [this, h]; rfl
  · have : ((p / 2 ^ k : Nat) : Int) % 2 = 1 := by
      show ((p / 2 ^ k % 2 : Nat) : Int) = 1
      rw [h]; rfl
    rw [this, h]; rfl

set_option maxHeartbeats 1000000 in
theorem list_nat (p : Nat) (w : World) (hp : p ≤ 18446744073709551615) :
    Calls Try.prog 26 #[.int .u64 (p : Int)] w fun e w' => ∃ A c, e = .returned (.slice A (Pol.len p) c) ∧ (A = none → c = 0) ∧ SeesP w' (fun b => w.heap.size ≤ b ∧ b < w'.heap.size) A (bitsL p (Pol.len p)) ∧ Q w w' := by
  obtain ⟨i0, hi, hz0, hz1, hz2⟩ := info_parts infoBool
  have hl := Pol.len_le64 hp
  have hlt := Lib.hid (Pol.lt_len p)
  go_enter Try.func26, Try.ntmps26
  go_wp2
  go_loopw [0, 3] (fun x v wr => ∃ (k y : Nat), k ≤ Pol.len p ∧ x = .int .u64 y ∧ y ≤ 18446744073709551615 ∧ Hid (y = p / 2 ^ k) ∧ wr.ownsRow w.heap.size 4 1 v k (bitsL p k) ∧ Q w wr) (fun x _ _ => (intOf x).toNat)
  case atStart => exact ⟨0, p, by omega, rfl, hp, by show _ = _; simp, ⟨by simp [bitsL], .inl ⟨rfl, rfl⟩⟩, Q.refl _⟩
  case round =>
    obtain ⟨k, y, hk, rfl, hy, Hy, hown, hq⟩ := hrel
    by_cases h0 : y = 0
    · have hd : decide (0 < y) = false := by rw [h0]; rfl
      have hke : Hid (k = Pol.len p) := by
        show _ = _
        have h1 := Hy.out
        rw [h0] at h1
        have h2 : p < 2 ^ k := by
          rcases Nat.div_eq_zero_iff.1 h1.symm with h | h
          · have := Nat.two_pow_pos k; omega
          · exact h
        have := Pol.len_le.2 h2
        omega
      clear h0
      go_wp2
      obtain ⟨A, c, rfl, hc, hs⟩ := SeesP.of_own hown
      have HC := Lib.hid hc
      clear hc
      go_ret
      have hke' := hke.out
      subst hke'
      exact ⟨A, c, rfl, HC.out, hs, hq⟩
    · have hd : decide (0 < y) = true := decide_eq_true (by omega)
      have hk' : k < Pol.len p := by
        apply Nat.lt_of_not_le
        intro hle
        apply h0
        rw [Hy.out]
        exact Nat.div_eq_of_lt (Nat.lt_of_lt_of_le hlt.out (Nat.pow_le_pow_right (by omega) hle))
      have hb : ((y : Int) % 2 == 1) = p.testBit k := by rw [Hy.out]; exact testBit_div p k
      generalize hbit : p.testBit k = t at *
      have Hbit := Lib.hid hbit
      clear hbit
      have hhalf : Hid (y / 2 = p / 2 ^ (k + 1)) := by show _ = _; rw [Hy.out, Nat.div_div_eq_div_mul, Nat.pow_succ]
      go_wp2_with (at_builtin; refine wpList_append_own _ rfl _ _ 48 rfl w.heap.size 4 i0 (.bool false) 1 1 Try.underlying48 hi hz0 hz1 hz2 rfl (by decide) _ _ _ rfl (hown.alloc _) ⟨wr.heap.size, 0, none⟩ 1 1 [.bool t] rfl rfl ?c1 ?c2 ?c3 ?c4 ?c5 ?_)
      case c1 => exact one_cell wr (.bool t) _
      case c2 => intro u hu; simp at hu; subst hu; rfl
      case c3 => simp only [maxLen]; omega
      case c4 => omega
      case c5 => have := hq.size; simp; omega
      intro v' w1 hown1 hg1 _
      have hq1 : Q w w1 := (hq.alloc _).grown hown hg1
      have hown2 : w1.ownsRow w.heap.size 4 1 v' (k + 1) (bitsL p (k + 1)) := by rw [bitsL_snoc, Hbit.out]; exact hown1
      clear hown1 hg1 hown
      go_wp2
      go_roundw
      case rel => exact ⟨k + 1, y / 2, by omega, by go_num, by omega, hhalf.out, hown2, hq1⟩
      case measure => simp [intOf]; omega

set_option maxHeartbeats 400000 in
theorem refDeg_nat (p : Nat) (w : World) (hp : p ≤ 18446744073709551615) :
    Calls Try.prog 14 #[.int .u64 (p : Int)] w fun e w' => e = .returned (.int .i64 ((Pol.len p : Int) - 1)) ∧ Q w w' := by
  have hl := Pol.len_le64 hp
  go_enter Try.func14, Try.ntmps14
  go_wp2_with (go_at_call 26; (with_reducible refine (list_nat _ _ hp).mono ?_); rintro e w' ⟨A, c, rfl, _, hs, hq⟩)
  go_ret
  exact ⟨rfl, hq⟩

/-- The number of a list of coefficients: the lowest 64. -/
def numL (l : List Bool) : Nat := (l.take 64).foldr (fun b n => b.toNat + 2 * n) 0
theorem numL_lt (l : List Bool) (n : Nat) : (l.take n).foldr (fun b n => b.toNat + 2 * n) 0 < 2 ^ n := by
  induction n generalizing l with
  | zero => simp
  | succ n ih =>
    cases l with
    | nil => simp; exact Nat.two_pow_pos _
    | cons b l => have := ih l; have hb := Bool.toNat_lt b; simp only [List.take_succ_cons, List.foldr_cons, Nat.pow_succ]; omega
theorem foldr_snoc (l : List Bool) (b : Bool) : (l ++ [b]).foldr (fun b n => b.toNat + 2 * n) 0 = l.foldr (fun b n => b.toNat + 2 * n) 0 + b.toNat * 2 ^ l.length := by
  induction l with
  | nil => simp
  | cons c l ih =>
                   simp only [List.cons_append, List.foldr_cons, ih, List.length_cons, Nat.pow_succ]
                   have : b.toNat * (2 ^ l.length * 2) = 2 * (b.toNat * 2 ^ l.length) := by rw [Nat.mul_comm (2 ^ _), Nat.mul_left_comm]
                   omega
theorem foldr_bits (p n : Nat) : ((List.range n).map fun i => p.testBit i).foldr (fun b n => b.toNat + 2 * n) 0 = p % 2 ^ n := by
  induction n with
  | zero => simp [Nat.mod_one]
  | succ n ih =>
    rw [List.range_succ, List.map_append, List.map_cons, List.map_nil, foldr_snoc, ih, List.length_map, List.length_range, Nat.mod_pow_succ, Nat.testBit_eq_decide_div_mod_eq]
    rcases Nat.mod_two_eq_zero_or_one (p / 2 ^ n) with h | h <;> simp [h]
theorem numL_bits (p n : Nat) (hn : n ≤ 64) (hp : p < 2 ^ n) : numL ((List.range n).map fun i => p.testBit i) = p := by
  unfold numL
  rw [List.take_of_length_le (by simpa using hn), foldr_bits, Nat.mod_eq_of_lt hp]

theorem numL_take_snoc (l : List Bool) (k : Nat) (h : k < l.length) : (l.take (k + 1)).foldr (fun b n => b.toNat + 2 * n) 0 = (l.take k).foldr (fun b n => b.toNat + 2 * n) 0 + l[k].toNat * 2 ^ k := by
  rw [List.take_succ_eq_append_getElem h, foldr_snoc, List.length_take, Nat.min_eq_left (by omega)]

set_option maxHeartbeats 1000000 in
theorem number_nat (A : Option Addr) (c : Nat) (ok : Nat → Prop) (l : List Bool) (w : World) (h : SeesP w ok A (l.map .bool)) (hl : l.length ≤ 9223372036854775807) :
    Calls Try.prog 28 #[.slice A l.length c] w fun e w' => e = .returned (.int .u64 (numL l : Nat)) ∧ w = w' := by
  have H := Lib.hid h
  clear h
  go_enter Try.func28, Try.ntmps28
  go_wp2
  go_loop [3, 4] (fun n i => ∃ (k x : Nat), k ≤ l.length ∧ k ≤ 64 ∧ x < 18446744073709551616 ∧ n = .int .u64 x ∧ i = .int .i64 k ∧ Hid (x = (l.take k).foldr (fun b n => b.toNat + 2 * n) 0)) (fun _ i => 64 - (intOf i).toNat)
  case atStart => exact ⟨0, 0, by omega, by omega, by omega, rfl, rfl, rfl⟩
  case round =>
    obtain ⟨k, x, hk, hk64, hx, rfl, rfl, Hx⟩ := hrel
    by_cases hlt : k < l.length
    · by_cases h64 : k < 64
      · obtain ⟨b, o, rfl, hb, hc⟩ := H.out.at_ (k := k) (u := .bool l[k]) (by simp [hlt])
        have hs := numL_take_snoc l k hlt
        have hs2 := numL_lt l (k + 1)
        rw [← Hx.out] at hs
        rw [hs] at hs2
        have hs' := Lib.hid hs
        clear hs
        have hpk : 2 ^ (k + 1) ≤ 2 ^ 64 := Nat.pow_le_pow_right (by omega) (by omega)
        generalize l[k] = t at *
        cases t with
        | true =>
          have s1 : IntKind.u64.wrap (2 ^ k : Int) = ((2 ^ k : Nat) : Int) := shl_one (by rw [Nat.pow_succ] at hpk; have := Nat.two_pow_pos k; omega)
          have s2 : x + 2 ^ k < 18446744073709551616 := by simp at hs2; omega
          have s3 : IntKind.u64.wrap ((x : Int) + 2 ^ k) = ((x + 2 ^ k : Nat) : Int) := by
            rw [IntKind.wrap_u64, show ((2 : Int) ^ k) = ((2 ^ k : Nat) : Int) from by rw [Int.natCast_pow]; rfl]; omega
          have s4 : Hid (x + 2 ^ k = (l.take (k + 1)).foldr (fun b n => b.toNat + 2 * n) 0) := by show _ = _; rw [hs'.out]; simp
          clear hs2 hpk
          go_wp2
          go_round
          case rel => exact ⟨k + 1, x + 2 ^ k, by omega, by omega, s2, by rw [Int.natCast_add, Int.natCast_pow]; rfl, by go_num, s4.out⟩
          case measure => simp [intOf]; omega
        | false =>
          have s4 : Hid (x = (l.take (k + 1)).foldr (fun b n => b.toNat + 2 * n) 0) := by show _ = _; rw [hs'.out]; simp
          clear hs2 hpk
          go_wp2
          go_round
          case rel => exact ⟨k + 1, x, by omega, by omega, hx, rfl, by go_num, s4.out⟩
          case measure => simp [intOf]; omega
      · have hke : k = 64 := by omega
        have hz : Hid (x = numL l) := by show _ = _; rw [Hx.out, hke]; rfl
        clear hke
        go_wp2
        go_ret
        exact ⟨by rw [hz.out]; rfl, rfl⟩
    · have hz : Hid (x = numL l) := by
        show _ = _
        rw [Hx.out, numL, List.take_of_length_le (by omega), List.take_of_length_le (by omega)]
      go_wp2
      go_ret
      exact ⟨by rw [hz.out]; rfl, rfl⟩
end Go.Proofs.Ytgilaklgpopjeaa
