/- The walks through the reference of chapter 05: Right, Ints, One, DocSizes. -/
import Derived.Test.YtddjccjbbajgaaaCutF
import Derived.Test.YtddjccjbbajgaaaRollD
namespace Go.Proofs.Ytddjccjbbajgaaa
set_option linter.unusedVariables false
set_option linter.unusedSimpArgs false
open Go.RowKit

set_option maxHeartbeats 4000000 in
set_option maxRecDepth 100000 in
theorem refRight_nat (l m b : Int) (p : Nat) (w : World) (hp : p ≤ 18446744073709551615) :
    Calls Try.prog 16 #[ruleV l m b p] w fun e w' => e = .returned (.bool (decide (RuleOk l m b p))) ∧ Q w w' := by
  unfold ruleV
  by_cases h1 : 64 ≤ l
  · by_cases h2 : l ≤ m
    · by_cases h3 : m ≤ 65536
      · by_cases h4 : 1 ≤ b
        · by_cases h5 : b ≤ 20
          · have hd : decide (RuleOk l m b p) = decide (24 ≤ (Pol.len p : Int) - 1) := by
              apply decide_eq_decide.2
              unfold RuleOk
              constructor
              · intro h; omega
              · intro h; omega
            rw [hd]
            go_enter Try.func16, Try.ntmps16
            go_wp2_with (go_at_call 25; (with_reducible refine (refDeg_nat _ _ hp).mono ?_); rintro e w' ⟨rfl, hq⟩)
            go_ret
            exact ⟨rfl, ((Q.refl w).alloc _).step hq⟩
          · rw [show decide (RuleOk l m b p) = false from decide_eq_false (fun h => h5 h.2.2.2.2.1)]
            go_enter Try.func16, Try.ntmps16
            go_wp2
            go_ret
            exact ⟨rfl, (Q.refl w).alloc _⟩
        · rw [show decide (RuleOk l m b p) = false from decide_eq_false (fun h => h4 h.2.2.2.1)]
          go_enter Try.func16, Try.ntmps16
          go_wp2
          go_ret
          exact ⟨rfl, (Q.refl w).alloc _⟩
      · rw [show decide (RuleOk l m b p) = false from decide_eq_false (fun h => h3 h.2.2.1)]
        go_enter Try.func16, Try.ntmps16
        go_wp2
        go_ret
        exact ⟨rfl, (Q.refl w).alloc _⟩
    · rw [show decide (RuleOk l m b p) = false from decide_eq_false (fun h => h2 h.2.1)]
      go_enter Try.func16, Try.ntmps16
      go_wp2
      go_ret
      exact ⟨rfl, (Q.refl w).alloc _⟩
  · rw [show decide (RuleOk l m b p) = false from decide_eq_false (fun h => h1 h.1)]
    go_enter Try.func16, Try.ntmps16
    go_wp2
    go_ret
    exact ⟨rfl, (Q.refl w).alloc _⟩

set_option maxHeartbeats 4000000 in
set_option maxRecDepth 100000 in
theorem ints_nat (A A' : Option Addr) (c c' : Nat) (ok ok' : Nat → Prop) (l l' : List Nat) (w : World) (hs : SeesP w ok A (l.map I64)) (hs' : SeesP w ok' A' (l'.map I64)) (hl : l.length ≤ 9223372036854775806) (hl' : l'.length ≤ 9223372036854775806) :
    Calls Try.prog 21 #[.slice A l.length c, .slice A' l'.length c'] w fun e w' => e = .returned (.bool (decide (l = l'))) ∧ Q w w' := by
  by_cases hlen : l.length = l'.length
  · obtain ⟨n, hn⟩ : ∃ n, n = l.length := ⟨_, rfl⟩
    rw [← hlen, ← hn]
    rw [← hn] at hl
    have HN := Lib.hid hn
    have HN' := Lib.hid (hn.trans hlen)
    have HS := Lib.hid hs
    have HS' := Lib.hid hs'
    have H0 : Hid (l.take 0 = l'.take 0) := rfl
    clear hs hs' hlen hl' hn
    go_enter Try.func21, Try.ntmps21
    go_wp2_with fail
    go_loopw [5] (fun i wr => ∃ k : Nat, k ≤ n ∧ i = .int .i64 k ∧ Hid (l.take k = l'.take k) ∧ ∃ d, wr = w.drewN d) (fun i _ => n - (intOf i).toNat)
    case atStart => exact ⟨0, by omega, rfl, H0.out, 0, rfl⟩
    case round =>
      obtain ⟨k, hk, rfl, HT, d, rfl⟩ := hrel
      by_cases hlt : k < n
      · have hk1 : k < l.length := by rw [← HN.out]; exact hlt
        have hk2 : k < l'.length := by rw [← HN'.out]; exact hlt
        obtain ⟨b, o, rfl, _, hc⟩ := HS.out.at_ (k := k) (u := I64 l[k]) (by simp [hk1])
        obtain ⟨b', o', rfl, _, hc'⟩ := HS'.out.at_ (k := k) (u := I64 l'[k]) (by simp [hk2])
        unfold I64 at hc hc'
        by_cases hx : l[k] = l'[k]
        · have HT1 : Hid (l.take (k + 1) = l'.take (k + 1)) := by
            show _ = _; rw [List.take_succ_eq_append_getElem hk1, List.take_succ_eq_append_getElem hk2, HT.out, hx]
          rw [← hx] at hc'
          generalize l[k] = x at *
          clear hx
          go_wp2_with fail
          go_quiet (fail)
          go_wp2
          go_roundw
          case rel => exact ⟨k + 1, by omega, by go_num, HT1.out, _, rfl⟩
          case measure => simp [intOf]; omega
        · have hd : decide (l = l') = false := decide_eq_false (fun h => by subst h; exact hx rfl)
          have HD := Lib.hid hd
          have hd1 : ((l[k] : Nat) : Int) ≠ ((l'[k] : Nat) : Int) := by omega
          generalize l[k] = x at *
          generalize l'[k] = y at *
          have hb : ((x : Int) != (y : Int)) = true := by simpa using hd1
          have hb' : ((x : Int) == (y : Int)) = false := by simpa using hd1
          clear hx hd1 hd
          go_wp2_with fail
          go_quiet (fail)
          go_wp2
          go_ret
          exact ⟨by rw [HD.out]; rfl, ((Q.refl w).drewN _).drewN _⟩
      · have hd : decide (l = l') = true := decide_eq_true (by
          have h := HT.out
          rw [List.take_of_length_le (by rw [← HN.out]; omega), List.take_of_length_le (by rw [← HN'.out]; omega)] at h
          exact h)
        have HD := Lib.hid hd
        clear hd
        go_wp2_with fail
        go_ret
        exact ⟨by rw [HD.out]; rfl, (Q.refl w).drewN _⟩
  · have hd : decide (l = l') = false := decide_eq_false (fun h => hlen (by rw [h]))
    rw [hd]
    generalize l.length = n at *
    generalize l'.length = n' at *
    have hb : ((n : Int) != (n' : Int)) = true := bne_iff_ne.2 (by omega)
    have hb' : ((n : Int) == (n' : Int)) = false := beq_eq_false_iff_ne.2 (by omega)
    clear hs hs' hd hlen
    go_enter Try.func21, Try.ntmps21
    go_wp2_with fail
    go_ret
    exact ⟨rfl, Q.refl w⟩
end Go.Proofs.Ytddjccjbbajgaaa
