/- A clock; CellTicks. -/
import Derived.Test.YtffpaeljnfmmiaaCrs
namespace Go.Proofs.Ytffpaeljnfmmiaa
set_option linter.unusedVariables false
set_option linter.unusedSimpArgs false
open Go.RowKit Go.Maps

/-- A clock in block c. -/
def ClHas (w : World) (c : Nat) (x : Int) : Prop := w.rowIs c 40 1 (fun _ => .int .i64 x)
section
variable {w w' : World} {c : Nat} {x : Int} {S : Nat → Prop}
theorem ClHas.c0 (h : ClHas w c x) : w.cell? ⟨c, 0, none⟩ = some (.int .i64 x) := World.rowIs.cell h (i := 0) (by omega)
theorem ClHas.fr (h : ClHas w c x) (i : Nat) : w.frozen? ⟨c, i, none⟩ = false := World.rowIs.frozen h i
theorem ClHas.lt (h : ClHas w c x) : c < w.heap.size := World.rowIs.lt h
theorem ClHas.q (h : ClHas w c x) (hq : Q w w') : ClHas w' c x := row_q hq h
theorem ClHas.put (h : ClHas w c x) (y : Int) : ClHas (w.setCell ⟨c, 0, none⟩ (.int .i64 y)) c y := by
  refine (World.rowIs.set h 0 _).congr (fun i hi => ?_)
  match i, hi with
  | 0, _ => rfl
end
theorem never_ok (w : World) : Calls Try.prog 11 #[] w fun e w' => e = .returned (.pointer none) ∧ w' = w := by
  go_enter Try.func11, Try.ntmps11
  go_wp2
  go_ret
  exact ⟨rfl, rfl⟩
theorem now_nil (w : World) : Calls Try.prog 12 #[.pointer none] w fun e w' => e = .returned (.int .i64 0) ∧ w' = w := by
  go_enter Try.func12, Try.ntmps12
  go_wp2
  go_ret
  exact ⟨rfl, rfl⟩
theorem tick_nil (n : Int) (w : World) : Calls Try.prog 13 #[.pointer none, .int .i64 n] w fun e w' => e = .returned (.int .i64 1) ∧ w' = w := by
  go_enter Try.func13, Try.ntmps13
  go_wp2
  go_ret
  exact ⟨rfl, rfl⟩
theorem now_ok (c : Nat) (x : Int) (w : World) (h : ClHas w c x) : Calls Try.prog 12 #[.pointer (some ⟨c, 0, none⟩)] w fun e w' => e = .returned (.int .i64 x) ∧ w' = w := by
  have c0 := h.c0
  clear h
  go_enter Try.func12, Try.ntmps12
  go_wp2
  go_ret
  exact ⟨rfl, rfl⟩
theorem tick_no (c : Nat) (x n : Int) (w : World) (h : ClHas w c x) (h0 : 0 ≤ x) (h1 : x ≤ 1099511627776) (hn : n < 0 ∨ 1099511627776 - x < n) :
    Calls Try.prog 13 #[.pointer (some ⟨c, 0, none⟩), .int .i64 n] w fun e w' => e = .returned (.int .i64 1) ∧ w' = w := by
  have c0 := h.c0
  have e1 : wrap64 (1099511627776 - x) = 1099511627776 - x := by unfold wrap64; omega
  by_cases hneg : n < 0
  · have d1 : decide (n < 0) = true := decide_eq_true hneg
    clear h hn hneg
    go_enter Try.func13, Try.ntmps13
    go_wp2
    go_ret
    exact ⟨rfl, rfl⟩
  · have d1 : decide (n < 0) = false := decide_eq_false hneg
    have d2 : decide (1099511627776 - x < n) = true := decide_eq_true (by omega)
    clear h hn hneg
    go_enter Try.func13, Try.ntmps13
    go_wp2
    go_ret
    exact ⟨rfl, rfl⟩
theorem tick_ok (c : Nat) (x n : Int) (w : World) (h : ClHas w c x) (h0 : 0 ≤ x) (h1 : x ≤ 1099511627776) (hn : 0 ≤ n) (hx : n ≤ 1099511627776 - x) :
    Calls Try.prog 13 #[.pointer (some ⟨c, 0, none⟩), .int .i64 n] w fun e w' => e = .returned (.int .i64 0) ∧ ClHas w' c (x + n) ∧ Only (fun k => k = c) w w' := by
  have c0 := h.c0
  have z0 := h.fr 0
  have HP := Lib.hid (h.put (x + n))
  have e1 : wrap64 (1099511627776 - x) = 1099511627776 - x := by unfold wrap64; omega
  have e2 : wrap64 (x + n) = x + n := by unfold wrap64; omega
  have d1 : decide (n < 0) = false := decide_eq_false (by omega)
  have d2 : decide (1099511627776 - x < n) = false := decide_eq_false (by omega)
  clear h
  go_enter Try.func13, Try.ntmps13
  go_wp2
  go_ret
  exact ⟨rfl, HP.out, only_set _ _ _ _⟩

theorem IsRow.at_ {w : World} {A : Option Addr} {n c : Nat} {zs : List Int} (h : IsRow .i64 w A n c zs) (k : Nat) (hk : k < n) :
    ∃ b o z, A = some ⟨b, o, none⟩ ∧ b < w.heap.size ∧ w.cell? ⟨b, o + k, none⟩ = some (.int .i64 z) ∧ -9223372036854775808 ≤ z ∧ z ≤ 9223372036854775807 := by
  obtain ⟨h1, h2, h3⟩ := h.len_le
  have hw := h.wf
  have hk' : k < zs.length := by omega
  obtain ⟨b, o, e, hb, hc⟩ := h.sees (by intro e; have := congrArg List.length e; simp at this; subst this; simp at hk')
  refine ⟨b, o, zs[k], e, hb, hc k _ (by simp [hk']), ?_⟩
  exact wfi64 (hw _ (List.getElem_mem _))
set_option maxHeartbeats 8000000 in
set_option maxRecDepth 100000 in
theorem cellTicks_true (A : Option Addr) (n c : Nat) (zs : List Int) (w : World) (wA : IsRow .i64 w A n c zs) :
    Calls Try.prog 4 #[.slice A n c] w fun e w' => e = .returned (.bool true) ∧ Q w w' := by
  have hl := wA.len_le
  have HW := Lib.hid wA
  have HN : Hid (n ≤ 9223372036854775807) := Lib.hid (by unfold maxLen at hl; omega)
  go_enter Try.func4, Try.ntmps4
  go_wp2_with (first
    | (go_at_call 7; go_loud (refine (rises_ok w).mono ?_; rintro e1 w1 ⟨rfl, hq1⟩; have HQ1 := Lib.hid hq1; clear hq1))
    | (go_at_call 11; go_loud (refine (never_ok _).mono ?_; rintro e1 w2 ⟨rfl, rfl⟩))
    | (go_at_call 12; go_loud (refine (now_nil _).mono ?_; rintro e1 w2 ⟨rfl, rfl⟩))
    | (go_at_call 13; go_loud (refine (tick_nil _ _).mono ?_; rintro e1 w2 ⟨rfl, rfl⟩)))
  go_loopw [4, 5, 6] (fun nw i _ wr => ∃ (k : Nat) (x : Int), k ≤ n ∧ k ≤ 60 ∧ i = .int .i64 k ∧ nw = .int .i64 x ∧ 0 ≤ x ∧ x ≤ 1099511627776 ∧ Hid (ClHas wr w2.heap.size x ∧ Q w2 wr)) (fun _ i _ _ => n - (intOf i).toNat)
  case atStart =>
    refine ⟨0, 0, by omega, by omega, rfl, rfl, by omega, by omega, Lib.hid ⟨?_, (Q.refl _).alloc _⟩⟩
    refine World.rowIs_alloc w2 #[.int .i64 0] 40 _ (fun i hi => ?_)
    match i, hi with
    | 0, _ => rfl
  case round =>
    obtain ⟨k, x, hk, hk6, rfl, rfl, hx0, hx1, HK⟩ := hrel
    obtain ⟨wq, hwq⟩ : ∃ w, w = wr := ⟨_, rfl⟩
    subst hwq
    by_cases hlt : k < n
    · have d1 : decide ((k : Int) < (n : Int)) = true := decide_eq_true (by omega)
      by_cases hlt6 : k < 60
      · have d2 : decide ((k : Int) < 60) = true := decide_eq_true (by omega)
        obtain ⟨b, o, z, rfl, hb, hz, hz0, hz1⟩ := HW.out.at_ k hlt
        have cz : wq.cell? ⟨b, o + k, none⟩ = some (.int .i64 z) := by
          have := (HQ1.out.step HK.out.2).cell (p := ⟨b, o + k, none⟩) hb
          rw [this]; exact hz
        have hkn : (0 : Int) ≤ (k : Int) := by omega
        have e1 : wrap64 (1099511627776 - x) = 1099511627776 - x := by unfold wrap64; omega
        by_cases hbad : z < 0 ∨ 1099511627776 - x < z
        · have HT := Lib.hid (tick_no w2.heap.size x z wq HK.out.1 hx0 hx1 hbad)
          by_cases hneg : z < 0
          · have d3 : decide (z < 0) = true := decide_eq_true hneg
            clear hbad
            go_wp2_with (first
              | (go_at_call 13; go_loud (refine HT.out.mono ?_; rintro e1 w3 ⟨rfl, rfl⟩))
              | (go_at_call 12; go_loud (refine (now_ok w2.heap.size x _ HK.out.1).mono ?_; rintro e1 w3 ⟨rfl, rfl⟩)))
            go_roundw
            case rel =>  exact ⟨k + 1, x, by omega, by omega, by go_num, rfl, hx0, hx1, HK⟩
            case measure => simp only [intOf]; omega
          · have d3 : decide (z < 0) = false := decide_eq_false hneg
            have d4 : decide (1099511627776 - x < z) = true := decide_eq_true (by omega)
            clear hbad
            go_wp2_with (first
              | (go_at_call 13; go_loud (refine HT.out.mono ?_; rintro e1 w3 ⟨rfl, rfl⟩))
              | (go_at_call 12; go_loud (refine (now_ok w2.heap.size x _ HK.out.1).mono ?_; rintro e1 w3 ⟨rfl, rfl⟩)))
            go_roundw
            case rel =>  exact ⟨k + 1, x, by omega, by omega, by go_num, rfl, hx0, hx1, HK⟩
            case measure => simp only [intOf]; omega
        · have HT := Lib.hid (tick_ok w2.heap.size x z wq HK.out.1 hx0 hx1 (by omega) (by omega))
          have d3 : decide (z < 0) = false := decide_eq_false (by omega)
          have d4 : decide (1099511627776 - x < z) = false := decide_eq_false (by omega)
          have e4 : wrap64 (x + z) = x + z := by unfold wrap64; omega
          go_wp2_with (first
            | (go_at_call 13; go_loud (refine HT.out.mono ?_; rintro e1 w3 ⟨rfl, h3, ho3⟩; have H3 := Lib.hid h3; have HO3 := Lib.hid ho3; have HZ3 := Lib.hid (ho3.block b (by have := (HQ1.out.step HK.out.2).size; omega) (fun e => by have := HQ1.out.size; have e' : b = w2.heap.size := e; omega)); have cz3 := (World.cell?_of_block (a := ⟨b, o + k, none⟩) HZ3.out).trans cz; clear h3 ho3))
            | (go_at_call 12; go_loud (refine (now_ok w2.heap.size _ _ H3.out).mono ?_; rintro e1 w4 ⟨rfl, rfl⟩)))
          go_roundw
          case rel =>  exact ⟨k + 1, x + z, by omega, by omega, by go_num, rfl, by omega, by omega, Lib.hid ⟨H3.out, HO3.out.q HK.out.2 (fun k hk => by omega)⟩⟩
          case measure => simp only [intOf]; omega
      · have d2 : decide ((k : Int) < 60) = false := decide_eq_false (by omega)
        go_wp2
        go_ret
        exact ⟨rfl, HQ1.out.step HK.out.2⟩
    · have d1 : decide ((k : Int) < (n : Int)) = false := decide_eq_false (by omega)
      go_wp2
      go_ret
      exact ⟨rfl, HQ1.out.step HK.out.2⟩
end Go.Proofs.Ytffpaeljnfmmiaa
