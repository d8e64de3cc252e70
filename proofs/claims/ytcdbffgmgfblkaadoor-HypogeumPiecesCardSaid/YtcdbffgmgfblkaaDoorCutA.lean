/- Plain theory of chapter 05: where a row of bytes is cut. No program in sight. -/
import Derived.Test.YtcdbffgmgfblkaaDoorRollA
namespace Go.Proofs.YtcdbffgmgfblkaaDoor
set_option linter.unusedVariables false
set_option linter.unusedSimpArgs false
open Classical

/-- A rule: the least and the most bytes of a piece, how many bits decide, the polynomial. -/
structure Rl where
  least : Nat
  most : Nat
  bits : Nat
  m : Nat

/-- Is a piece whole behind these bytes? -/
def Rl.ends (r : Rl) (p : List Nat) : Prop := p.length = r.most ∨ (r.least ≤ p.length ∧ (Pol.roll r.m 0 (p.drop (p.length - 64)) + 1) % 2 ^ r.bits = 0)

/-- The pieces that are whole, and what is left, where p has come of a piece. -/
noncomputable def Rl.feed (r : Rl) : List Nat → List Nat → List (List Nat) × List Nat
  | p, [] => ([], p)
  | p, x :: b => if r.ends (p ++ [x]) then ((p ++ [x]) :: (r.feed [] b).1, (r.feed [] b).2) else r.feed (p ++ [x]) b

theorem Rl.feed_nil (r : Rl) (p : List Nat) : r.feed p [] = ([], p) := by simp [Rl.feed]
theorem Rl.feed_yes (r : Rl) {p : List Nat} {x : Nat} (h : r.ends (p ++ [x])) (b : List Nat) : r.feed p (x :: b) = ((p ++ [x]) :: (r.feed [] b).1, (r.feed [] b).2) := by rw [Rl.feed, if_pos h]
theorem Rl.feed_no (r : Rl) {p : List Nat} {x : Nat} (h : ¬ r.ends (p ++ [x])) (b : List Nat) : r.feed p (x :: b) = r.feed (p ++ [x]) b := by rw [Rl.feed, if_neg h]
theorem Rl.feed_append (r : Rl) : ∀ (a p b : List Nat), r.feed p (a ++ b) = ((r.feed p a).1 ++ (r.feed (r.feed p a).2 b).1, (r.feed (r.feed p a).2 b).2)
  | [], p, b => by simp [Rl.feed_nil]
  | x :: a, p, b => by
    rw [List.cons_append]
    by_cases h : r.ends (p ++ [x])
    · rw [r.feed_yes h, r.feed_yes h, r.feed_append a [] b]; simp
    · rw [r.feed_no h, r.feed_no h, r.feed_append a _ b]
theorem Rl.feed_join (r : Rl) : ∀ (b p : List Nat), (r.feed p b).1.flatten ++ (r.feed p b).2 = p ++ b
  | [], p => by simp [Rl.feed_nil]
  | x :: b, p => by
    by_cases h : r.ends (p ++ [x])
    · rw [r.feed_yes h]
      have := r.feed_join b []
      simp only [List.flatten_cons, List.append_assoc, List.nil_append] at this ⊢
      rw [this]; rfl
    · rw [r.feed_no h, r.feed_join b _]; simp
theorem Rl.feed_none (r : Rl) : ∀ (b p : List Nat), (∀ n, 1 ≤ n → n ≤ b.length → ¬ r.ends (p ++ b.take n)) → r.feed p b = ([], p ++ b)
  | [], p, _ => by simp [Rl.feed_nil]
  | x :: b, p, h => by
    have h1 := h 1 (by omega) (by simp)
    rw [List.take_succ_cons, List.take_zero] at h1
    rw [r.feed_no h1, r.feed_none b (p ++ [x]) (fun n hn hl => by
      have := h (n + 1) (by omega) (by simp; omega)
      rwa [List.take_succ_cons, List.append_cons] at this)]
    simp
theorem Rl.feed_first (r : Rl) : ∀ (n : Nat) (b p : List Nat), 1 ≤ n → n ≤ b.length → r.ends (p ++ b.take n) → (∀ k, 1 ≤ k → k < n → ¬ r.ends (p ++ b.take k)) →
    r.feed p b = ((p ++ b.take n) :: (r.feed [] (b.drop n)).1, (r.feed [] (b.drop n)).2)
  | 0, _, _, h, _, _, _ => by omega
  | n + 1, [], _, _, h, _, _ => by simp at h
  | n + 1, x :: b, p, _, hl, he, hk => by
    by_cases hn : n = 0
    · subst hn
      simp only [Nat.zero_add, List.take_succ_cons, List.take_zero] at he
      rw [r.feed_yes he]; simp
    · have h1 := hk 1 (by omega) (by omega)
      rw [List.take_succ_cons, List.take_zero] at h1
      rw [List.take_succ_cons, List.append_cons] at he
      rw [r.feed_no h1, r.feed_first n b (p ++ [x]) (by omega) (by simp at hl; omega) he (fun k hk1 hk2 => by
        have := hk (k + 1) (by omega) (by omega)
        rwa [List.take_succ_cons, List.append_cons] at this)]
      rw [List.take_succ_cons, List.drop_succ_cons]; simp

/-- All pieces, the last one too. -/
noncomputable def Rl.pieces (r : Rl) (b : List Nat) : List (List Nat) := (r.feed [] b).1 ++ if (r.feed [] b).2 = [] then [] else [(r.feed [] b).2]
noncomputable def Rl.sizes (r : Rl) (b : List Nat) : List Nat := (r.pieces b).map List.length

/-- A rule that is right. -/
structure Rl.Right (r : Rl) : Prop where
  l64 : 64 ≤ r.least
  lm : r.least ≤ r.most
  m16 : r.most ≤ 65536
  b1 : 1 ≤ r.bits
  b20 : r.bits ≤ 20
  deg : 25 ≤ Pol.len r.m

theorem Rl.pieces_nil (r : Rl) : r.pieces [] = [] := by simp [Rl.pieces, Rl.feed_nil]
theorem Rl.pieces_join (r : Rl) (b : List Nat) : (r.pieces b).flatten = b := by
  have h := r.feed_join b []
  unfold Rl.pieces
  split
  · rename_i h2; rw [h2] at h; simpa using h
  · simpa using h
theorem Rl.pieces_none (r : Rl) {b : List Nat} (hb : b ≠ []) (h : ∀ n, 1 ≤ n → n ≤ b.length → ¬ r.ends (b.take n)) : r.pieces b = [b] := by
  have := r.feed_none b [] (by simpa using h)
  unfold Rl.pieces
  rw [this]
  simp [hb]
theorem Rl.pieces_first (r : Rl) {b : List Nat} {n : Nat} (h1 : 1 ≤ n) (h2 : n ≤ b.length) (he : r.ends (b.take n)) (hk : ∀ k, 1 ≤ k → k < n → ¬ r.ends (b.take k)) : r.pieces b = b.take n :: r.pieces (b.drop n) := by
  have := r.feed_first n b [] h1 h2 (by simpa using he) (by simpa using hk)
  unfold Rl.pieces
  rw [this]
  simp
/-- Behind whole pieces the rest is cut as if it were alone. -/
theorem Rl.pieces_append (r : Rl) {a : List Nat} (h : (r.feed [] a).2 = []) (b : List Nat) : r.pieces (a ++ b) = (r.feed [] a).1 ++ r.pieces b := by
  unfold Rl.pieces
  rw [r.feed_append, h]
  simp [List.append_assoc]
/-- A whole piece. -/
structure Rl.Whole (r : Rl) (p : List Nat) : Prop where
  some : p ≠ []
  ends : r.ends p
  first : ∀ k, 1 ≤ k → k < p.length → ¬ r.ends (p.take k)
/-- No piece ends in it. -/
def Rl.Open (r : Rl) (p : List Nat) : Prop := ∀ k, 1 ≤ k → k ≤ p.length → ¬ r.ends (p.take k)
theorem Rl.open_nil (r : Rl) : r.Open [] := fun k h1 h2 => by simp at h2; omega
theorem Rl.open_snoc (r : Rl) {p : List Nat} {x : Nat} (h : r.Open p) (hx : ¬ r.ends (p ++ [x])) : r.Open (p ++ [x]) := fun k h1 h2 => by
  by_cases hk : k ≤ p.length
  · rw [List.take_append_of_le_length hk]; exact h k h1 hk
  · rw [List.take_of_length_le (by simp; omega)]; exact hx
theorem Rl.whole_snoc (r : Rl) {p : List Nat} {x : Nat} (h : r.Open p) (hx : r.ends (p ++ [x])) : r.Whole (p ++ [x]) :=
  ⟨by simp, hx, fun k h1 h2 => by
    simp at h2
    rw [List.take_append_of_le_length (by omega)]; exact h k h1 (by omega)⟩
theorem Rl.feed_whole (r : Rl) : ∀ (b p : List Nat), r.Open p → (∀ q ∈ (r.feed p b).1, r.Whole q) ∧ r.Open (r.feed p b).2
  | [], p, h => by rw [r.feed_nil]; exact ⟨by simp, h⟩
  | x :: b, p, h => by
    by_cases hx : r.ends (p ++ [x])
    · rw [r.feed_yes hx]
      obtain ⟨h1, h2⟩ := r.feed_whole b [] r.open_nil
      refine ⟨fun q hq => ?_, h2⟩
      rcases List.mem_cons.1 hq with rfl | hq
      · exact r.whole_snoc h hx
      · exact h1 q hq
    · rw [r.feed_no hx]
      exact r.feed_whole b _ (r.open_snoc h hx)
theorem Rl.feed_one (r : Rl) {p : List Nat} (h : r.Whole p) (b : List Nat) : r.feed [] (p ++ b) = (p :: (r.feed [] b).1, (r.feed [] b).2) := by
  have hl : 1 ≤ p.length := by have := h.some; cases p <;> simp_all
  have := r.feed_first p.length (p ++ b) [] hl (by simp) (by simpa using h.ends) (fun k h1 h2 => by
    rw [List.nil_append, List.take_append_of_le_length (by omega)]; exact h.first k h1 h2)
  simpa using this
theorem Rl.feed_wholes (r : Rl) : ∀ (o : List (List Nat)) (b : List Nat), (∀ q ∈ o, r.Whole q) → r.feed [] (o.flatten ++ b) = (o ++ (r.feed [] b).1, (r.feed [] b).2)
  | [], b, _ => by simp
  | q :: o, b, h => by
    rw [List.flatten_cons, List.append_assoc, r.feed_one (h q (List.mem_cons_self ..)), r.feed_wholes o b (fun q' hq => h q' (List.mem_cons_of_mem _ hq))]
    simp
theorem Rl.pieces_wholes (r : Rl) (o : List (List Nat)) (b : List Nat) (h : ∀ q ∈ o, r.Whole q) : r.pieces (o.flatten ++ b) = o ++ r.pieces b := by
  unfold Rl.pieces
  rw [r.feed_wholes o b h]
  simp [List.append_assoc]
end Go.Proofs.YtcdbffgmgfblkaaDoor
