/- GlyphBack's plain law: what was written is read; of a beginning of it something is missing. -/
import Derived.Test.YtbbpdcnkiljjgaaGlyH
import Derived.Test.YtbbpdcnkiljjgaaGlyT
import Derived.Test.YtbbpdcnkiljjgaaGlyO
namespace Go.Proofs.Ytbbpdcnkiljjgaa
set_option linter.unusedVariables false
set_option linter.unusedSimpArgs false
open Go.RowKit

/-- The bytes of a thing that is tame. -/
def encT (t : Thing) : List Nat :=
  if kindOf t.1 = 0 then numL t.2.1.toNat else if kindOf t.1 = 1 then numL t.2.2.size ++ bytesOf t.2.2 else if kindOf t.1 = 2 then flagL (t.2.1.tmod 2 == 1) else bytesOf t.2.2
def Good (t : Thing) : Prop := 0 ≤ t.2.1 ∧ t.2.1 < 4611686018427387904 ∧ t.2.2.size ≤ 300
theorem encT_len {t : Thing} (h : Good t) : (encT t).length ≤ 309 := by
  have h9 := numL_nine (n := t.2.1.toNat) (by have := h.1; have := h.2.1; omega)
  have h8 := numL_nine (n := t.2.2.size) (by have := h.2.2; omega)
  have h7 := h.2.2
  unfold encT
  split
  · omega
  · split
    · rw [List.length_append, bytesOf_len]; omega
    · split
      · show 1 ≤ 309; omega
      · rw [bytesOf_len]; omega
theorem encT_byte {t : Thing} : ∀ x ∈ encT t, x ≤ 255 := by
  unfold encT
  split
  · exact numL_byte _
  · split
    · intro x hx
      rcases List.mem_append.1 hx with h | h
      · exact numL_byte _ x h
      · exact bytesOf_byte _ x h
    · split
      · intro x hx
        unfold flagL at hx
        rw [List.mem_singleton] at hx
        subst hx
        split <;> omega
      · exact bytesOf_byte _

theorem num_enc {t : Thing} (hk : 0 = kindOf t.1) (hg : Good t) (L : List Nat) : numStep (0, L) t.2.1 = (0, L ++ encT t) := by
  unfold numStep encT
  rw [if_pos rfl, if_pos ⟨hg.1, hg.2.1⟩, if_pos hk.symm]
theorem text_enc {t : Thing} (hk : 1 = kindOf t.1) (hg : Good t) (L : List Nat) : textStep (0, L) t.2.2 = (0, L ++ encT t) := by
  unfold textStep encT
  rw [if_pos rfl, if_pos (by have := hg.2.2; omega), if_neg (by omega), if_pos hk.symm]
theorem flag_enc {t : Thing} (hk : 2 = kindOf t.1) (L : List Nat) : flagStep (0, L) (t.2.1.tmod 2 == 1) = (0, L ++ encT t) := by
  unfold flagStep rawStep encT
  rw [if_pos rfl, if_neg (by omega), if_neg (by omega), if_pos hk.symm]
theorem raw_enc {t : Thing} (hk : 3 = kindOf t.1) (L : List Nat) : rawStep (0, L) (bytesOf t.2.2) = (0, L ++ encT t) := by
  unfold rawStep encT
  rw [if_pos rfl, if_neg (by omega), if_neg (by omega), if_neg (by omega)]
theorem rdNum_short (limit : Int) (a : Nat) : ∀ (k n : Nat) (B C : List Nat), numL a = B ++ C → C ≠ [] → k + (numL a).length ≤ 9 → rdNum limit k n B = (0, 3, []) := by
  induction a using numL.induct with
  | case1 a h =>
    intro k n B C h1 h2 h3
    rw [numL_small h] at h1 h3
    cases B with
    | nil => exact rdNum_nil limit (by simp at h3; omega) n
    | cons x B =>
      have := congrArg List.length h1
      have h4 := List.length_pos_iff.2 h2
      rw [List.length_singleton, List.length_append, List.length_cons] at this; omega
  | case2 a h ih =>
    intro k n B C h1 h2 h3
    have hp := numL_pos (a / 128)
    rw [numL_big (by omega)] at h1 h3
    cases B with
    | nil => exact rdNum_nil limit (by simp at h3; omega) n
    | cons x B =>
      rw [List.cons_append, List.cons.injEq] at h1
      rw [rdNum_more limit (by simp at h3; omega) n (by omega)]
      exact ih _ _ B C h1.2 h2 (by simp at h3; omega)
/-- Of a row a part is behind: what comes first is there whole, or not. -/
theorem row_cut {X R B M : List Nat} (h : B ++ M = X ++ R) : (∃ S, B = X ++ S ∧ S ++ M = R) ∨ (∃ C, X = B ++ C ∧ C ≠ [] ∧ M ≠ []) := by
  rcases List.append_eq_append_iff.1 h with ⟨a, h1, h2⟩ | ⟨c, h1, h2⟩
  · by_cases ha : a = []
    · subst ha
      exact .inl ⟨[], by simpa using h1.symm, by simpa using h2⟩
    · exact .inr ⟨a, h1, ha, by rw [h2]; simp [ha]⟩
  · exact .inl ⟨c, h1, h2.symm⟩
theorem num_cut {limit : Int} {v : Nat} {R B M : List Nat} (h : B ++ M = numL v ++ R) (hv : v < 4611686018427387904) (hl : (v : Int) ≤ limit) :
    (∃ S, numRd limit (0, B) = (v, (0, S)) ∧ S ++ M = R) ∨ (numRd limit (0, B) = (0, (3, B)) ∧ M ≠ []) := by
  rcases row_cut h with ⟨S, rfl, h2⟩ | ⟨C, h1, h2, h3⟩
  · refine .inl ⟨S, numRd_ok ?_, h2⟩
    have := rdNum_back limit v 0 0 S (by omega) (by omega) (by have := numL_nine hv; omega) (by omega)
    simpa using this
  · exact .inr ⟨numRd_bad (rdNum_short limit v 0 0 B C h1 h2 (by have := numL_nine hv; omega)) (by omega), h3⟩
theorem raw_cut {n : Nat} {X R B M : List Nat} (h : B ++ M = X ++ R) (hn : X.length = n) :
    (∃ S, rawRd (n : Int) (0, B) = (X, (0, S)) ∧ S ++ M = R) ∨ (rawRd (n : Int) (0, B) = ([], (3, B)) ∧ M ≠ []) := by
  subst hn
  unfold rawRd
  rw [if_pos rfl, if_neg (by omega)]
  rcases row_cut h with ⟨S, rfl, h2⟩ | ⟨C, rfl, h2, h3⟩
  · refine .inl ⟨S, ?_, h2⟩
    rw [if_neg (by rw [List.length_append]; omega)]
    simp
  · refine .inr ⟨?_, h3⟩
    have := List.length_pos_iff.2 h2
    rw [if_pos (by simp; omega)]

/-- What holds when n things were taken: what is left and what is missing are the rest; or something was missing. -/
def Left (had : List Thing) (M : List Nat) (n : Nat) (s : Nat × List Nat) : Prop := (s.1 = 0 ∧ s.2 ++ M = (had.drop n).flatMap encT) ∨ (s.1 = 3 ∧ M ≠ [])
section
variable {had : List Thing} {M : List Nat} {n : Nat} {s : Nat × List Nat}
theorem Left.next (h : Left had M n s) (hn : n < had.length) : (s.1 = 0 ∧ s.2 ++ M = encT had[n] ++ (had.drop (n + 1)).flatMap encT) ∨ (s.1 = 3 ∧ M ≠ []) := by
  rcases h with ⟨h1, h2⟩ | h
  · rw [List.drop_eq_getElem_cons hn, List.flatMap_cons] at h2
    exact .inl ⟨h1, h2⟩
  · exact .inr h
theorem left_num (h : Left had M n s) (hn : n < had.length) (hg : Good had[n]) (hk : kindOf had[n].1 = 0) : Left had M (n + 1) (numRd 4611686018427387904 s).2 ∧ (M = [] → (numRd 4611686018427387904 s).1 = had[n].2.1.toNat) := by
  obtain ⟨e, B⟩ := s
  rcases h.next hn with ⟨h1, h2⟩ | ⟨h1, h2⟩
  · simp only at h1 h2; subst h1
    unfold encT at h2
    rw [if_pos hk] at h2
    rcases num_cut (limit := 4611686018427387904) h2 (by have := hg.1; have := hg.2.1; omega) (by have := hg.1; have := hg.2.1; omega) with ⟨S, h3, h4⟩ | ⟨h3, h4⟩
    · rw [h3]; exact ⟨.inl ⟨rfl, h4⟩, fun _ => rfl⟩
    · rw [h3]; exact ⟨.inr ⟨rfl, h4⟩, fun h => absurd h h4⟩
  · simp only at h1; subst h1
    exact ⟨.inr ⟨rfl, h2⟩, fun h => absurd h h2⟩
theorem left_raw (h : Left had M n s) (hn : n < had.length) (hk : kindOf had[n].1 = 3) : Left had M (n + 1) (rawRd (had[n].2.2.size : Int) s).2 ∧ (M = [] → (rawRd (had[n].2.2.size : Int) s).1 = bytesOf had[n].2.2) := by
  obtain ⟨e, B⟩ := s
  rcases h.next hn with ⟨h1, h2⟩ | ⟨h1, h2⟩
  · simp only at h1 h2; subst h1
    unfold encT at h2
    rw [if_neg (by omega), if_neg (by omega), if_neg (by omega)] at h2
    rcases raw_cut (n := had[n].2.2.size) h2 (bytesOf_len _) with ⟨S, h3, h4⟩ | ⟨h3, h4⟩
    · rw [h3]; exact ⟨.inl ⟨rfl, h4⟩, fun _ => rfl⟩
    · rw [h3]; exact ⟨.inr ⟨rfl, h4⟩, fun h => absurd h h4⟩
  · simp only at h1; subst h1
    exact ⟨.inr ⟨rfl, h2⟩, fun h => absurd h h2⟩
theorem left_text (h : Left had M n s) (hn : n < had.length) (hg : Good had[n]) (hk : kindOf had[n].1 = 1) : Left had M (n + 1) (textRd 300 s).2 ∧ (M = [] → (textRd 300 s).1 = bytesOf had[n].2.2) := by
  obtain ⟨e, B⟩ := s
  have hm : min (300 : Int) 131072 = 300 := by omega
  rcases h.next hn with ⟨h1, h2⟩ | ⟨h1, h2⟩
  · simp only at h1 h2; subst h1
    unfold encT at h2
    rw [if_neg (by omega), if_pos hk, List.append_assoc] at h2
    unfold textRd
    rw [hm]
    rcases num_cut (limit := 300) h2 (by have := hg.2.2; omega) (by have := hg.2.2; omega) with ⟨S, h3, h4⟩ | ⟨h3, h4⟩
    · rw [h3]
      rcases raw_cut (n := had[n].2.2.size) h4 (bytesOf_len _) with ⟨S2, h5, h6⟩ | ⟨h5, h6⟩
      · simp only; rw [h5]; exact ⟨.inl ⟨rfl, h6⟩, fun _ => rfl⟩
      · simp only; rw [h5]; exact ⟨.inr ⟨rfl, h6⟩, fun h => absurd h h6⟩
    · rw [h3]; exact ⟨.inr ⟨rfl, h4⟩, fun h => absurd h h4⟩
  · simp only at h1; subst h1
    exact ⟨.inr ⟨rfl, h2⟩, fun h => absurd h h2⟩
theorem left_flag (h : Left had M n s) (hn : n < had.length) (hk : kindOf had[n].1 = 2) : Left had M (n + 1) (flagRd s).2 ∧ (M = [] → (flagRd s).1 = (had[n].2.1.tmod 2 == 1)) := by
  obtain ⟨e, B⟩ := s
  rcases h.next hn with ⟨h1, h2⟩ | ⟨h1, h2⟩
  · simp only at h1 h2; subst h1
    unfold encT at h2
    rw [if_neg (by omega), if_neg (by omega), if_pos hk] at h2
    have h5 := raw_cut (n := 1) h2 rfl
    unfold flagRd
    rcases h5 with ⟨S, h3, h4⟩ | ⟨h3, h4⟩
    · have h3 : rawRd 1 (0, B) = (flagL (had[n].2.1.tmod 2 == 1), (0, S)) := h3
      rw [h3]
      cases (had[n].2.1.tmod 2 == 1)
      · exact ⟨.inl ⟨rfl, h4⟩, fun _ => rfl⟩
      · exact ⟨.inl ⟨rfl, h4⟩, fun _ => rfl⟩
    · have h3 : rawRd 1 (0, B) = ([], (3, B)) := h3
      rw [h3]; exact ⟨.inr ⟨rfl, h4⟩, fun h => absurd h h4⟩
  · simp only at h1; subst h1
    exact ⟨.inr ⟨rfl, h2⟩, fun h => absurd h h2⟩
theorem left_end (h : Left had M had.length s) : (endRd s).1 = if M = [] then 0 else 3 := by
  obtain ⟨e, B⟩ := s
  rcases h with ⟨h1, h2⟩ | ⟨h1, h2⟩
  · simp only at h1 h2
    rw [List.drop_of_length_le (Nat.le_refl _), List.flatMap_nil, List.append_eq_nil_iff] at h2
    rw [if_pos h2.2]
    unfold endRd
    rw [if_pos h2.1, h1]
  · simp only at h1
    subst h1
    rw [if_neg h2]
    unfold endRd
    split <;> rfl
theorem left_open (k c : Nat) (had : List Thing) : Left had (([72, 89, k] ++ had.flatMap encT).drop c) 0 (openRd k (([72, 89, k] ++ had.flatMap encT).take c)) := by
  by_cases hc : c < 3
  · right
    generalize had.flatMap encT = F
    unfold openRd
    match c, hc with
    | 0, _ => simp
    | 1, _ => simp
    | 2, _ => simp
  · left
    obtain ⟨d, rfl⟩ : ∃ d, c = d + 3 := ⟨c - 3, by omega⟩
    have h1 : ([72, 89, k] ++ had.flatMap encT).take (d + 3) = [72, 89, k] ++ (had.flatMap encT).take d := rfl
    have h2 : ([72, 89, k] ++ had.flatMap encT).drop (d + 3) = (had.flatMap encT).drop d := rfl
    rw [h1, h2, openRd_ok]
    exact ⟨rfl, by rw [List.take_append_drop]; rfl⟩
theorem open_other {k j : Nat} (h : k ≠ j) (F : List Nat) : openRd j ([72, 89, k] ++ F) = (2, []) := by
  unfold openRd
  rw [if_neg]
  intro h1
  rw [show min ([72, 89, k] ++ F).length 3 = 3 by simp] at h1
  have h2 : [72, 89, k] = [72, 89, j] := h1
  simp at h2
  exact h h2
end
end Go.Proofs.Ytbbpdcnkiljjgaa
