/- Plain: bytes that are fed in parts. -/
import Derived.Test.YtddjccjbbajgaaaCutM
namespace Go.Proofs.Ytddjccjbbajgaaa
set_option linter.unusedVariables false
set_option linter.unusedSimpArgs false
open Go.RowKit

theorem Rl.feed_head (r : Rl) : ∀ (b p q : List Nat) (t : List (List Nat)), (r.feed p b).1 = q :: t → p.length < q.length
  | [], p, q, t, h => by rw [r.feed_nil] at h; cases h
  | x :: b, p, q, t, h => by
    by_cases hx : r.ends (p ++ [x])
    · rw [r.feed_yes hx] at h
      simp only [List.cons.injEq] at h
      rw [← h.1]; simp
    · rw [r.feed_no hx] at h
      have := r.feed_head b (p ++ [x]) q t h
      simp at this; omega
/-- What has come of x behind d bytes. -/
structure Came (r : Rl) (x : List Nat) (d : Nat) (P : List (List Nat)) (p : List Nat) : Prop where
  fed : r.feed [] (x.take d) = (P, p)
theorem Came.begin_ (r : Rl) (x : List Nat) : Came r x 0 [] [] := ⟨by rw [List.take_zero, r.feed_nil]⟩
theorem Came.step {r : Rl} {x : List Nat} {d c : Nat} {P : List (List Nat)} {p : List Nat} (h : Came r x d P p) : Came r x (d + c) (P ++ (r.feed p ((x.drop d).take c)).1) (r.feed p ((x.drop d).take c)).2 :=
  ⟨by rw [List.take_add, r.feed_append, h.fed]⟩
theorem Came.join {r : Rl} {x : List Nat} {d : Nat} {P : List (List Nat)} {p : List Nat} (h : Came r x d P p) : P.flatten ++ p = x.take d := by
  have := r.feed_join (x.take d) []
  rw [h.fed] at this
  simpa using this
theorem Came.all {r : Rl} {x : List Nat} {d : Nat} {P : List (List Nat)} {p : List Nat} (h : Came r x d P p) : (r.feed [] x).1 = P ++ (r.feed p (x.drop d)).1 ∧ (r.feed [] x).2 = (r.feed p (x.drop d)).2 := by
  have := r.feed_append (x.take d) [] (x.drop d)
  rw [List.take_append_drop, h.fed] at this
  rw [this]; exact ⟨rfl, rfl⟩
theorem Came.sizes {r : Rl} {x : List Nat} {d : Nat} {P : List (List Nat)} {p : List Nat} (h : Came r x d P p) : ∃ T, r.sizes x = P.map List.length ++ T := by
  rw [r.sizes_eq, h.all.1, List.map_append, List.append_assoc]
  exact ⟨_, rfl⟩
theorem Came.bytes {r : Rl} {x : List Nat} {d : Nat} {P : List (List Nat)} {p : List Nat} (h : Came r x d P p) : ∃ R, x = P.flatten ++ R := by
  have h1 := h.join
  refine ⟨p ++ x.drop d, ?_⟩
  rw [← List.append_assoc, h1, List.take_append_drop]
theorem Came.next {r : Rl} {x : List Nat} {d : Nat} {P : List (List Nat)} {p : List Nat} (h : Came r x d P p) (hn : P.length + 1 < (r.sizes x).length) : ∃ hl : P.length < (r.sizes x).length, p.length < (r.sizes x)[P.length] := by
  refine ⟨by omega, ?_⟩
  have h1 := r.sizes_eq x
  have h2 := h.all.1
  have h3 : P.length < (r.feed [] x).1.length := by
    have := congrArg List.length h1
    rw [List.length_append, List.length_map] at this
    split at this
    · simp at this; omega
    · simp at this; omega
  cases hq : (r.feed p (x.drop d)).1 with
  | nil => rw [hq, List.append_nil] at h2; rw [h2] at h3; omega
  | cons q t =>
    have h4 := r.feed_head _ _ _ _ hq
    have h5 : (r.sizes x)[P.length]? = some q.length := by
      rw [h1, h2, hq]; simp
    obtain ⟨_, h6⟩ := List.getElem?_eq_some_iff.1 h5
    rw [h6]; exact h4
theorem Came.last {r : Rl} {x : List Nat} {P : List (List Nat)} {p : List Nat} (h : Came r x x.length P p) : (p = [] → (r.sizes x).length = P.length) ∧ (p ≠ [] → (r.sizes x).length = P.length + 1) ∧ x.drop P.flatten.length = p := by
  have h1 := h.fed
  rw [List.take_length] at h1
  have h2 := r.sizes_eq x
  rw [h1] at h2
  have h3 := h.join
  rw [List.take_length] at h3
  refine ⟨fun hp => ?_, fun hp => ?_, ?_⟩
  · rw [h2, if_pos hp]; simp
  · rw [h2, if_neg hp]; simp
  · rw [← h3, List.drop_left]
theorem flatten_piece (P : List (List Nat)) (R : List Nat) {y : Nat} (hy : y < P.length) : ((P.flatten ++ R).drop ((P.map List.length).take y).sum).take P[y].length = P[y] := by
  induction P generalizing y with
  | nil => simp at hy
  | cons q P ih =>
    cases y with
    | zero => simp
    | succ y =>
      simp only [List.map_cons, List.take_succ_cons, List.sum_cons, List.flatten_cons, List.append_assoc, List.getElem_cons_succ]
      rw [List.drop_length_add_append]
      exact ih (by simpa using hy)
/-- The piece number y of those that came, and its size in the sizes. -/
theorem Came.piece {r : Rl} {x : List Nat} {d : Nat} {P : List (List Nat)} {p : List Nat} (h : Came r x d P p) {y : Nat} (hy : y < P.length) :
    ∃ hl : y < (r.sizes x).length, (r.sizes x)[y] = P[y].length ∧ (x.drop ((P.map List.length).take y).sum).take P[y].length = P[y] ∧ ((P.map List.length).take y).sum + P[y].length ≤ x.length := by
  obtain ⟨T, hT⟩ := h.sizes
  obtain ⟨R, hR⟩ := h.bytes
  have h1 : (r.sizes x)[y]? = some P[y].length := by rw [hT, List.getElem?_append_left (by simpa using hy)]; simp [hy]
  obtain ⟨hl, h2⟩ := List.getElem?_eq_some_iff.1 h1
  refine ⟨hl, h2, by rw [hR]; exact flatten_piece P R hy, ?_⟩
  have h3 := sum_take_succ (P.map List.length) y (by simpa using hy)
  have h4 := sum_take_le (P.map List.length) (y + 1)
  rw [List.getElem_map] at h3
  have h5 : (P.map List.length).sum ≤ x.length := by rw [hR, List.length_append, List.length_flatten]; omega
  omega
theorem Came.flat {r : Rl} {x : List Nat} {d : Nat} {P : List (List Nat)} {p : List Nat} (h : Came r x d P p) (hd : d ≤ x.length) : (P.map List.length).sum + p.length = d := by
  have := congrArg List.length h.join
  rw [List.length_append, List.length_flatten, List.length_take, Nat.min_eq_left hd] at this
  exact this
theorem Came.open_ {r : Rl} {x : List Nat} {d : Nat} {P : List (List Nat)} {p : List Nat} (h : Came r x d P p) : r.Open p := by
  have := (r.feed_whole (x.take d) [] r.open_nil).2
  rw [h.fed] at this; exact this
end Go.Proofs.Ytddjccjbbajgaaa
