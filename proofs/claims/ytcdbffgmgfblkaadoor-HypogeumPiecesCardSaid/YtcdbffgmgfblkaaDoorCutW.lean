/- The walks through package cut: right, New. -/
import Derived.Test.YtcdbffgmgfblkaaDoorCutA
import Derived.Test.YtcdbffgmgfblkaaDoorRollQ
import Derived.Deep.RegionHeld3
namespace Go.Proofs.YtcdbffgmgfblkaaDoor
set_option linter.unusedVariables false
set_option linter.unusedSimpArgs false
open Go.RowKit

/-- A rule's value. -/
def ruleV (l m b : Int) (p : Nat) : Value := .agg #[.int .i64 l, .int .i64 m, .int .i64 b, .int .u64 (p : Int)]

/-- Is it a rule that is right? -/
def RuleOk (l m b : Int) (p : Nat) : Prop := 64 ≤ l ∧ l ≤ m ∧ m ≤ 65536 ∧ 1 ≤ b ∧ b ≤ 20 ∧ 25 ≤ Pol.len p
instance (l m b : Int) (p : Nat) : Decidable (RuleOk l m b p) := by unfold RuleOk; infer_instance

set_option maxHeartbeats 4000000 in
set_option maxRecDepth 100000 in
theorem right_nat (l m b : Int) (p : Nat) (w : World) (hp : p ≤ 18446744073709551615) :
    Calls Tryd.prog 46 #[ruleV l m b p] w fun e w' => e = .returned (.bool (decide (RuleOk l m b p))) ∧ Q w w' := by
  unfold ruleV
  by_cases h1 : 64 ≤ l
  · by_cases h2 : l ≤ m
    · by_cases h3 : m ≤ 65536
      · by_cases h4 : 1 ≤ b
        · by_cases h5 : b ≤ 20
          · have hd : decide (RuleOk l m b p) = decide (24 ≤ (Pol.len p : Int) - 1) := by
              apply decide_eq_decide.2
              unfold RuleOk
              constructor
              · intro h; omega
              · intro h; omega
            rw [hd]
            go_enter Tryd.func46, Tryd.ntmps46
            go_wp2_with (go_at_call 54; (with_reducible refine (deg_nat _ _ hp).mono ?_); rintro e w' ⟨rfl, rfl⟩)
            go_ret
            exact ⟨rfl, (Q.refl w).alloc _⟩
          · rw [show decide (RuleOk l m b p) = false from decide_eq_false (fun h => h5 h.2.2.2.2.1)]
            go_enter Tryd.func46, Tryd.ntmps46
            go_wp2
            go_ret
            exact ⟨rfl, (Q.refl w).alloc _⟩
        · rw [show decide (RuleOk l m b p) = false from decide_eq_false (fun h => h4 h.2.2.2.1)]
          go_enter Tryd.func46, Tryd.ntmps46
          go_wp2
          go_ret
          exact ⟨rfl, (Q.refl w).alloc _⟩
      · rw [show decide (RuleOk l m b p) = false from decide_eq_false (fun h => h3 h.2.2.1)]
        go_enter Tryd.func46, Tryd.ntmps46
        go_wp2
        go_ret
        exact ⟨rfl, (Q.refl w).alloc _⟩
    · rw [show decide (RuleOk l m b p) = false from decide_eq_false (fun h => h2 h.2.1)]
      go_enter Tryd.func46, Tryd.ntmps46
      go_wp2
      go_ret
      exact ⟨rfl, (Q.refl w).alloc _⟩
  · rw [show decide (RuleOk l m b p) = false from decide_eq_false (fun h => h1 h.1)]
    go_enter Tryd.func46, Tryd.ntmps46
    go_wp2
    go_ret
    exact ⟨rfl, (Q.refl w).alloc _⟩

/-! the struct Knife: 0 the roll, 1..4 the rule, 5 the bits that decide, 6 the piece -/
def knifeF (ru : Rl) (r : Nat) (v : Value) (i : Nat) : Value :=
  if i = 0 then .pointer (some ⟨r, 0, none⟩) else if i = 1 then .int .i64 ru.least else if i = 2 then .int .i64 ru.most else if i = 3 then .int .i64 ru.bits else if i = 4 then .int .u64 ru.m
  else if i = 5 then .int .u64 ((2 ^ ru.bits - 1 : Nat) : Int) else v

/-- A knife in block kn, its roll in r and lb; the bytes p of a piece have come; the value v holds them. -/
structure KnifeHas (w : World) (base kn r lb : Nat) (ru : Rl) (p : List Nat) (v : Value) : Prop where
  row : w.rowIs kn 94 7 (knifeF ru r v)
  own : w.ownsRow base 5 1 v p.length (p.map B8)
  roll : RollHas w r lb ru.m 64 (slide (List.replicate 64 0) p)
  far : v.ownBlock ≠ some kn ∧ v.ownBlock ≠ some r ∧ v.ownBlock ≠ some lb
  apart : kn ≠ r ∧ kn ≠ lb
  new : base ≤ kn ∧ base ≤ r ∧ base ≤ lb
  byte : ∀ x ∈ p, x ≤ 255

set_option maxHeartbeats 4000000 in
set_option maxRecDepth 100000 in
theorem newKnife_bad (l m b : Int) (p : Nat) (w : World) (hp : p ≤ 18446744073709551615) (h : ¬ RuleOk l m b p) :
    Calls Tryd.prog 36 #[ruleV l m b p] w fun e w' => e = .returned (.tuple #[.pointer none, .int .i64 1]) ∧ Q w w' := by
  have hr := Lib.hid (fun w' => right_nat l m b p w' hp)
  rw [decide_eq_false h] at hr
  unfold ruleV at hr ⊢
  go_enter Tryd.func36, Tryd.ntmps36
  go_wp2_with (go_at_call 46; (with_reducible refine (hr.out _).mono ?_); rintro e w' ⟨rfl, hq⟩)
  go_ret2
  exact ⟨rfl, ((Q.refl w).alloc _).step hq⟩

/-- A knife was made. -/
def MadeKnife (w : World) (ru : Rl) (e : Ending) (w' : World) : Prop := ∃ kn r lb, e = .returned (.tuple #[.pointer (some ⟨kn, 0, none⟩), .int .i64 0]) ∧ KnifeHas w' w.heap.size kn r lb ru [] (.slice none 0 0) ∧ Q w w'

set_option maxHeartbeats 8000000 in
set_option maxRecDepth 100000 in
theorem newKnife_ok (ru : Rl) (w : World) (hr : ru.Right) (hm : ru.m ≤ 18446744073709551615) :
    Calls Tryd.prog 36 #[ruleV ru.least ru.most ru.bits ru.m] w (MadeKnife w ru) := by
  obtain ⟨l, m, b, p⟩ := ru
  obtain ⟨h1, h2, h3, h4, h5, h6⟩ := hr
  simp only at h1 h2 h3 h4 h5 h6 hm ⊢
  have hok : RuleOk (l : Int) (m : Int) (b : Int) p := ⟨by omega, by omega, by omega, by omega, by omega, h6⟩
  have hri := Lib.hid (fun w' => right_nat l m b p w' hm)
  rw [decide_eq_true hok] at hri
  clear hok
  have hnew := Lib.hid (fun w' => new_ok p 64 w' hm (by omega) (by omega) (by omega))
  unfold ruleV at hri ⊢
  have hb0 : (0 : Int) ≤ (b : Int) := by omega
  have hpow : 2 ^ b ≤ 2 ^ 20 := Nat.pow_le_pow_right (by omega) h5
  have hpow1 : 1 ≤ 2 ^ b := Nat.two_pow_pos b
  have hsh : IntKind.u64.wrap (2 ^ b : Int) = ((2 ^ b : Nat) : Int) := shl_one (by omega)
  have hsub : (((2 ^ b : Nat) : Int) - 1) = ((2 ^ b - 1 : Nat) : Int) := by omega
  go_enter Tryd.func36, Tryd.ntmps36
  go_wp2_with (first
    | (go_at_call 46; (with_reducible refine (hri.out _).mono ?_); rintro e w1 ⟨rfl, hq1⟩; have qA : Q w w1 := ((Q.refl w).alloc _).step hq1; have hlt1 : w.heap.size < w1.heap.size := Nat.lt_of_lt_of_le (by simp) hq1.size
       have x0 : w1.cell? ⟨w.heap.size, 0, none⟩ = some (.int .i64 (l : Int)) := (by rw [hq1.cell (by simp)]; go_simp)
       have x1 : w1.cell? ⟨w.heap.size, 1, none⟩ = some (.int .i64 (m : Int)) := (by rw [hq1.cell (by simp)]; go_simp)
       have x2 : w1.cell? ⟨w.heap.size, 2, none⟩ = some (.int .i64 (b : Int)) := (by rw [hq1.cell (by simp)]; go_simp)
       have x3 : w1.cell? ⟨w.heap.size, 3, none⟩ = some (.int .u64 (p : Int)) := (by rw [hq1.cell (by simp)]; go_simp))
    | (go_at_call 47; refine (hnew.out _).mono ?_; rintro e w2 ⟨r, lb, rfl, hr1, hr2, hr3, hq2⟩))
  have hlt2 : w.heap.size < w2.heap.size := Nat.lt_of_lt_of_le hlt1 hq2.size
  have y0 := (hq2.cell (p := ⟨w.heap.size, 0, none⟩) hlt1).trans x0
  have y1 := (hq2.cell (p := ⟨w.heap.size, 1, none⟩) hlt1).trans x1
  have y2 := (hq2.cell (p := ⟨w.heap.size, 2, none⟩) hlt1).trans x2
  have y3 := (hq2.cell (p := ⟨w.heap.size, 3, none⟩) hlt1).trans x3
  have qB : Q w w2 := qA.step hq2
  have HR := Lib.hid hr3
  clear x0 x1 x2 x3 hq2 hr3 hnew hri
  have n0 := World.new_ne w2 _ y0
  have n1 := World.new_ne w2 _ y1
  have n2 := World.new_ne w2 _ y2
  have n3 := World.new_ne w2 _ y3
  go_region_held3 (fun w' => w'.cell? ⟨w.heap.size, 0, none⟩ = some (.int .i64 (l : Int)) ∧ w'.cell? ⟨w.heap.size, 1, none⟩ = some (.int .i64 (m : Int)) ∧ w'.cell? ⟨w.heap.size, 2, none⟩ = some (.int .i64 (b : Int)) ∧ w'.cell? ⟨w.heap.size, 3, none⟩ = some (.int .u64 (p : Int)))
    (go_keep) (fail)
  have hw : IntKind.u64.wrap ((2 : Int) ^ b - 1) = ((2 ^ b - 1 : Nat) : Int) := by
    rw [← hsub, IntKind.wrap_u64]
    have : ((2 ^ b : Nat) : Int) = (2 : Int) ^ b := by norm_cast
    omega
  rw [hw]
  have hlr := HR.out.lt
  go_wp2
  go_ret2
  refine ⟨_, r, lb, rfl, ⟨?_, ⟨rfl, .inl ⟨rfl, rfl⟩⟩, ?_, by simp [Value.ownBlock], ⟨by omega, by omega⟩, ⟨by omega, by omega, by omega⟩, by simp⟩, ?_⟩
  · refine World.rowIs_alloc w2 _ _ (knifeF ⟨l, m, b, p⟩ r (.slice none 0 0)) (fun i hi => ?_)
    match i, hi with
    | 0, _ => rfl
    | 1, _ => rfl
    | 2, _ => rfl
    | 3, _ => rfl
    | 4, _ => rfl
    | 5, _ => rfl
    | 6, _ => rfl
  · exact HR.out.q ((Q.refl w2).alloc _).drew
  · exact (qB.alloc _).drew
end Go.Proofs.YtcdbffgmgfblkaaDoor
