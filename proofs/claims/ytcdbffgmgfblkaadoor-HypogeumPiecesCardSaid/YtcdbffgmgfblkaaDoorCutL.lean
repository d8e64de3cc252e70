/- Plain: sizes of pieces, pieces put together, rows that meet, bytes that are fed in parts. -/
import Derived.Test.YtcdbffgmgfblkaaDoorCutC
namespace Go.Proofs.YtcdbffgmgfblkaaDoor
set_option linter.unusedVariables false
set_option linter.unusedSimpArgs false

theorem Rl.whole_len (r : Rl) (hr : r.Right) {p : List Nat} (h : r.Whole p) : r.least ≤ p.length ∧ p.length ≤ r.most := by
  have h1 := hr.l64
  have h2 := hr.lm
  refine ⟨?_, ?_⟩
  · rcases h.ends with h3 | ⟨h3, _⟩
    · omega
    · exact h3
  · rcases Nat.lt_or_ge r.most p.length with h3 | h3
    · exact absurd (.inl (by rw [List.length_take]; omega)) (h.first r.most (by omega) h3)
    · exact h3
theorem Rl.sizes_eq (r : Rl) (b : List Nat) : r.sizes b = (r.feed [] b).1.map List.length ++ if (r.feed [] b).2 = [] then [] else [(r.feed [] b).2.length] := by
  unfold Rl.sizes Rl.pieces
  rw [List.map_append]
  congr 1
  split <;> rfl
theorem Rl.sizes_get (r : Rl) (hr : r.Right) (b : List Nat) (i : Nat) (hi : i < (r.sizes b).length) : 1 ≤ (r.sizes b)[i] ∧ (r.sizes b)[i] ≤ r.most ∧ (i + 1 < (r.sizes b).length → r.least ≤ (r.sizes b)[i]) := by
  obtain ⟨hw, ho⟩ := r.feed_whole b [] r.open_nil
  have h64 := hr.l64
  have hlm := hr.lm
  have key : ∀ v, (r.sizes b)[i]? = some v → 1 ≤ v ∧ v ≤ r.most ∧ (i + 1 < (r.sizes b).length → r.least ≤ v) := by
    intro v hv
    rw [r.sizes_eq] at hv ⊢
    by_cases h1 : i < ((r.feed [] b).1.map List.length).length
    · rw [List.getElem?_append_left h1, List.getElem?_map, Option.map_eq_some_iff] at hv
      obtain ⟨q, hq, rfl⟩ := hv
      obtain ⟨h2, h3⟩ := r.whole_len hr (hw q (List.mem_of_getElem? hq))
      exact ⟨by omega, h3, fun _ => h2⟩
    · rw [List.getElem?_append_right (by omega)] at hv
      split at hv
      · simp at hv
      · rename_i hne
        have h0 : i - ((r.feed [] b).1.map List.length).length = 0 := by
          obtain ⟨h2, _⟩ := List.getElem?_eq_some_iff.1 hv
          simp at h2 ⊢; omega
        rw [h0] at hv
        simp at hv
        subst hv
        have := List.length_pos_iff.2 hne
        have := r.open_len hr ho
        refine ⟨by omega, by omega, fun h => ?_⟩
        rw [List.length_append, if_neg hne] at h
        simp only [List.length_map, List.length_singleton] at h h0 h1
        omega
  exact key _ (List.getElem?_eq_getElem hi)
theorem Rl.sizes_sum (r : Rl) (b : List Nat) : (r.sizes b).sum = b.length := by
  unfold Rl.sizes
  rw [← List.length_flatten, r.pieces_join]
theorem sum_take_succ (s : List Nat) (k : Nat) (h : k < s.length) : (s.take (k + 1)).sum = (s.take k).sum + s[k] := by
  rw [List.take_succ_eq_append_getElem h, List.sum_append]; simp
theorem sum_take_le (s : List Nat) (k : Nat) : (s.take k).sum ≤ s.sum := by
  conv => rhs; rw [← List.take_append_drop k s, List.sum_append]
  omega

theorem flatten_take (L : List (List Nat)) : ∀ k, (L.take k).flatten = L.flatten.take ((L.map List.length).take k).sum := by
  induction L with
  | nil => intro k; simp
  | cons q L ih =>
    intro k
    cases k with
    | zero => simp
    | succ k => simp only [List.take_succ_cons, List.flatten_cons, List.map_cons, List.sum_cons, ih k, List.take_length_add_append]
theorem flatten_drop (L : List (List Nat)) : ∀ k, (L.drop k).flatten = L.flatten.drop ((L.map List.length).take k).sum := by
  induction L with
  | nil => intro k; simp
  | cons q L ih =>
    intro k
    cases k with
    | zero => simp
    | succ k => simp only [List.take_succ_cons, List.drop_succ_cons, List.flatten_cons, List.map_cons, List.sum_cons, ih k, List.drop_length_add_append]
theorem Rl.take_whole (r : Rl) (a : List Nat) {k : Nat} (hk : k < (r.pieces a).length) : ∀ q ∈ (r.pieces a).take k, r.Whole q := by
  obtain ⟨hw, _⟩ := r.feed_whole a [] r.open_nil
  intro q hq
  have hle : (r.pieces a).take k = (r.feed [] a).1.take k := by
    unfold Rl.pieces at hk ⊢
    rw [List.take_append_of_le_length]
    split at hk
    · simp at hk; omega
    · simp at hk; omega
  rw [hle] at hq
  exact hw q (List.mem_of_mem_take hq)
theorem Rl.pieces_put (r : Rl) (a b : List Nat) {k : Nat} (hk : k < (r.pieces a).length) : r.pieces (a.take ((r.sizes a).take k).sum ++ b) = (r.pieces a).take k ++ r.pieces b := by
  have h := r.pieces_wholes _ b (r.take_whole a hk)
  rw [flatten_take, r.pieces_join] at h
  exact h
theorem Rl.sizes_put (r : Rl) (a b : List Nat) {k : Nat} (hk : k < (r.sizes a).length) : r.sizes (a.take ((r.sizes a).take k).sum ++ b) = (r.sizes a).take k ++ r.sizes b := by
  have h := r.pieces_put a b (k := k) (by unfold Rl.sizes at hk; rwa [List.length_map] at hk)
  show (r.pieces _).map List.length = ((r.pieces a).map List.length).take k ++ (r.pieces b).map List.length
  rw [h, List.map_append, List.map_take]
theorem Rl.sizes_drop (r : Rl) (a : List Nat) {k : Nat} (hk : k < (r.sizes a).length) : (r.sizes a).drop k = r.sizes (a.drop ((r.sizes a).take k).sum) := by
  have h := r.sizes_put a (a.drop ((r.sizes a).take k).sum) hk
  rw [List.take_append_drop] at h
  conv at h => lhs; rw [← List.take_append_drop k (r.sizes a)]
  exact List.append_cancel_left h
theorem Rl.sizes_behind (r : Rl) (a b : List Nat) : r.sizes (a.take ((r.sizes a).take ((r.sizes a).length - 1)).sum ++ b) = (r.sizes a).take ((r.sizes a).length - 1) ++ r.sizes b := by
  by_cases h : (r.sizes a).length = 0
  · rw [List.eq_nil_of_length_eq_zero h]; simp
  · exact r.sizes_put a b (by omega)
theorem sizes_len (ru : Rl) (hru : ru.Right) (x : List Nat) : (ru.sizes x).length ≤ x.length := by
  have h := ru.sizes_get hru x
  have h2 := ru.sizes_sum x
  have h3 : ∀ s : List Nat, (∀ v ∈ s, 1 ≤ v) → s.length ≤ s.sum := fun s => by
    induction s with
    | nil => simp
    | cons a s ih => intro h; have := h a (List.mem_cons_self ..); have := ih (fun v hv => h v (List.mem_cons_of_mem _ hv)); simp; omega
  have := h3 (ru.sizes x) (fun v hv => by obtain ⟨i, hi, rfl⟩ := List.getElem_of_mem hv; exact (h i hi).1)
  omega

theorem Rl.meet (r : Rl) (one two same : List Nat) {i k : Nat} (hi : i < (r.sizes (one ++ same)).length) (hk : k < (r.sizes (two ++ same)).length)
    (h1 : one.length ≤ ((r.sizes (one ++ same)).take i).sum) (h2 : two.length ≤ ((r.sizes (two ++ same)).take k).sum) (h3 : ((r.sizes (one ++ same)).take i).sum - one.length = ((r.sizes (two ++ same)).take k).sum - two.length) :
    (r.sizes (one ++ same)).drop i = (r.sizes (two ++ same)).drop k := by
  rw [r.sizes_drop _ hi, r.sizes_drop _ hk]
  congr 1
  rw [List.drop_append, List.drop_append, List.drop_of_length_le h1, List.drop_of_length_le h2, List.nil_append, List.nil_append, h3]

theorem Rl.feed_head (r : Rl) : ∀ (b p q : List Nat) (t : List (List Nat)), (r.feed p b).1 = q :: t → p.length < q.length
  | [], p, q, t, h => by rw [r.feed_nil] at h; cases h
  | x :: b, p, q, t, h => by
    by_cases hx : r.ends (p ++ [x])
    · rw [r.feed_yes hx] at h
      simp only [List.cons.injEq] at h
      rw [← h.1]; simp
    · rw [r.feed_no hx] at h
      have := r.feed_head b (p ++ [x]) q t h
      simp at this; omega
/-- What has come of x behind d bytes. -/
structure Came (r : Rl) (x : List Nat) (d : Nat) (P : List (List Nat)) (p : List Nat) : Prop where
  fed : r.feed [] (x.take d) = (P, p)
theorem Came.begin_ (r : Rl) (x : List Nat) : Came r x 0 [] [] := ⟨by rw [List.take_zero, r.feed_nil]⟩
theorem Came.step {r : Rl} {x : List Nat} {d c : Nat} {P : List (List Nat)} {p : List Nat} (h : Came r x d P p) : Came r x (d + c) (P ++ (r.feed p ((x.drop d).take c)).1) (r.feed p ((x.drop d).take c)).2 :=
  ⟨by rw [List.take_add, r.feed_append, h.fed]⟩
theorem Came.join {r : Rl} {x : List Nat} {d : Nat} {P : List (List Nat)} {p : List Nat} (h : Came r x d P p) : P.flatten ++ p = x.take d := by
  have := r.feed_join (x.take d) []
  rw [h.fed] at this
  simpa using this
theorem Came.all {r : Rl} {x : List Nat} {d : Nat} {P : List (List Nat)} {p : List Nat} (h : Came r x d P p) : (r.feed [] x).1 = P ++ (r.feed p (x.drop d)).1 ∧ (r.feed [] x).2 = (r.feed p (x.drop d)).2 := by
  have := r.feed_append (x.take d) [] (x.drop d)
  rw [List.take_append_drop, h.fed] at this
  rw [this]; exact ⟨rfl, rfl⟩
theorem Came.sizes {r : Rl} {x : List Nat} {d : Nat} {P : List (List Nat)} {p : List Nat} (h : Came r x d P p) : ∃ T, r.sizes x = P.map List.length ++ T := by
  rw [r.sizes_eq, h.all.1, List.map_append, List.append_assoc]
  exact ⟨_, rfl⟩
theorem Came.bytes {r : Rl} {x : List Nat} {d : Nat} {P : List (List Nat)} {p : List Nat} (h : Came r x d P p) : ∃ R, x = P.flatten ++ R := by
  have h1 := h.join
  refine ⟨p ++ x.drop d, ?_⟩
  rw [← List.append_assoc, h1, List.take_append_drop]
theorem Came.next {r : Rl} {x : List Nat} {d : Nat} {P : List (List Nat)} {p : List Nat} (h : Came r x d P p) (hn : P.length + 1 < (r.sizes x).length) : ∃ hl : P.length < (r.sizes x).length, p.length < (r.sizes x)[P.length] := by
  refine ⟨by omega, ?_⟩
  have h1 := r.sizes_eq x
  have h2 := h.all.1
  have h3 : P.length < (r.feed [] x).1.length := by
    have := congrArg List.length h1
    rw [List.length_append, List.length_map] at this
    split at this
    · simp at this; omega
    · simp at this; omega
  cases hq : (r.feed p (x.drop d)).1 with
  | nil => rw [hq, List.append_nil] at h2; rw [h2] at h3; omega
  | cons q t =>
    have h4 := r.feed_head _ _ _ _ hq
    have h5 : (r.sizes x)[P.length]? = some q.length := by
      rw [h1, h2, hq]; simp
    obtain ⟨_, h6⟩ := List.getElem?_eq_some_iff.1 h5
    rw [h6]; exact h4
theorem Came.last {r : Rl} {x : List Nat} {P : List (List Nat)} {p : List Nat} (h : Came r x x.length P p) : (p = [] → (r.sizes x).length = P.length) ∧ (p ≠ [] → (r.sizes x).length = P.length + 1) ∧ x.drop P.flatten.length = p := by
  have h1 := h.fed
  rw [List.take_length] at h1
  have h2 := r.sizes_eq x
  rw [h1] at h2
  have h3 := h.join
  rw [List.take_length] at h3
  refine ⟨fun hp => ?_, fun hp => ?_, ?_⟩
  · rw [h2, if_pos hp]; simp
  · rw [h2, if_neg hp]; simp
  · rw [← h3, List.drop_left]
theorem flatten_piece (P : List (List Nat)) (R : List Nat) {y : Nat} (hy : y < P.length) : ((P.flatten ++ R).drop ((P.map List.length).take y).sum).take P[y].length = P[y] := by
  induction P generalizing y with
  | nil => simp at hy
  | cons q P ih =>
    cases y with
    | zero => simp
    | succ y =>
      simp only [List.map_cons, List.take_succ_cons, List.sum_cons, List.flatten_cons, List.append_assoc, List.getElem_cons_succ]
      rw [List.drop_length_add_append]
      exact ih (by simpa using hy)
/-- The piece number y of those that came, and its size in the sizes. -/
theorem Came.piece {r : Rl} {x : List Nat} {d : Nat} {P : List (List Nat)} {p : List Nat} (h : Came r x d P p) {y : Nat} (hy : y < P.length) :
    ∃ hl : y < (r.sizes x).length, (r.sizes x)[y] = P[y].length ∧ (x.drop ((P.map List.length).take y).sum).take P[y].length = P[y] ∧ ((P.map List.length).take y).sum + P[y].length ≤ x.length := by
  obtain ⟨T, hT⟩ := h.sizes
  obtain ⟨R, hR⟩ := h.bytes
  have h1 : (r.sizes x)[y]? = some P[y].length := by rw [hT, List.getElem?_append_left (by simpa using hy)]; simp [hy]
  obtain ⟨hl, h2⟩ := List.getElem?_eq_some_iff.1 h1
  refine ⟨hl, h2, by rw [hR]; exact flatten_piece P R hy, ?_⟩
  have h3 := sum_take_succ (P.map List.length) y (by simpa using hy)
  have h4 := sum_take_le (P.map List.length) (y + 1)
  rw [List.getElem_map] at h3
  have h5 : (P.map List.length).sum ≤ x.length := by rw [hR, List.length_append, List.length_flatten]; omega
  omega
theorem Came.flat {r : Rl} {x : List Nat} {d : Nat} {P : List (List Nat)} {p : List Nat} (h : Came r x d P p) (hd : d ≤ x.length) : (P.map List.length).sum + p.length = d := by
  have := congrArg List.length h.join
  rw [List.length_append, List.length_flatten, List.length_take, Nat.min_eq_left hd] at this
  exact this
theorem Came.open_ {r : Rl} {x : List Nat} {d : Nat} {P : List (List Nat)} {p : List Nat} (h : Came r x d P p) : r.Open p := by
  have := (r.feed_whole (x.take d) [] r.open_nil).2
  rw [h.fed] at this; exact this
end Go.Proofs.YtcdbffgmgfblkaaDoor
