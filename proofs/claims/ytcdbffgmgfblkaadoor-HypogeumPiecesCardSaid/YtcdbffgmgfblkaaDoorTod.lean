/- Plain: bytes that are put in somewhere: which pieces stay. -/
import Derived.Test.YtcdbffgmgfblkaaDoorCutL
namespace Go.Proofs.YtcdbffgmgfblkaaDoor
set_option linter.unusedVariables false
set_option linter.unusedSimpArgs false
open Go.RowKit

/-- The row with bytes put in. -/
def putIn (bl pl : List Nat) (k : Nat) : List Nat := bl.take k ++ pl ++ bl.drop k
/-- The piece number j of L, by its sizes S. -/
def pieceAt (L S : List Nat) (j : Nat) : List Nat := (L.drop (S.take j).sum).take (S.getD j 0)
theorem putIn_len (bl pl : List Nat) (k : Nat) (hk : k ≤ bl.length) : (putIn bl pl k).length = bl.length + pl.length := by
  unfold putIn
  simp
  omega
theorem getD_of {S : List Nat} {j : Nat} (h : j < S.length) : S.getD j 0 = S[j] := by rw [List.getD_eq_getElem?_getD, List.getElem?_eq_getElem h]; rfl
theorem head_drop {S T : List Nat} {i j : Nat} (h : S.drop i = T.drop j) (hi : i < S.length) : ∃ hj : j < T.length, T[j] = S[i] := by
  have h1 := congrArg (·[0]?) h
  simp only [List.getElem?_drop, Nat.add_zero] at h1
  rw [List.getElem?_eq_getElem hi] at h1
  obtain ⟨hj, h2⟩ := List.getElem?_eq_some_iff.1 h1.symm
  exact ⟨hj, h2⟩
theorem Rl.sizes_nil (r : Rl) : r.sizes [] = [] := by rw [r.sizes_eq, r.feed_nil]; rfl
/-- Behind an end of both. -/
theorem Rl.met_step (r : Rl) (bl pl : List Nat) {k i j at_ : Nat} (hk : k ≤ bl.length) (hi : i < (r.sizes (putIn bl pl k)).length) (ha : at_ = ((r.sizes (putIn bl pl k)).take i).sum) (hj : at_ = ((r.sizes bl).take j).sum + pl.length) (hge : k + pl.length ≤ at_) :
    ∃ h : j < (r.sizes bl).length, (r.sizes bl)[j] = (r.sizes (putIn bl pl k))[i] ∧ pieceAt bl (r.sizes bl) j = pieceAt (putIn bl pl k) (r.sizes (putIn bl pl k)) i := by
  have hd : (putIn bl pl k).drop at_ = bl.drop ((r.sizes bl).take j).sum := by
    unfold putIn
    rw [List.drop_append, List.drop_of_length_le (by simp; omega), List.nil_append, List.drop_drop]
    congr 1
    simp
    omega
  have h1 := r.sizes_drop (putIn bl pl k) hi
  rw [← ha, hd] at h1
  have hjl : j < (r.sizes bl).length := by
    rcases Nat.lt_or_ge j (r.sizes bl).length with h | h
    · exact h
    · exfalso
      rw [List.take_of_length_le h, r.sizes_sum, List.drop_length, r.sizes_nil, List.drop_eq_nil_iff] at h1
      omega
  rw [← r.sizes_drop bl hjl] at h1
  obtain ⟨hj2, h2⟩ := head_drop h1 hi
  refine ⟨hj2, h2, ?_⟩
  unfold pieceAt
  rw [← ha, hd, getD_of hj2, getD_of hi, h2]
/-- Ahead of the place. -/
theorem Rl.ahead_step (r : Rl) (bl pl : List Nat) {k i : Nat} (hk : k ≤ bl.length) (hi : i < (r.sizes (putIn bl pl k)).length) (he : ((r.sizes (putIn bl pl k)).take (i + 1)).sum ≤ k) (hlt : ((r.sizes (putIn bl pl k)).take (i + 1)).sum < (putIn bl pl k).length) :
    ∃ _ : i < (r.sizes bl).length, pieceAt bl (r.sizes bl) i = pieceAt (putIn bl pl k) (r.sizes (putIn bl pl k)) i := by
  have hi1 : i + 1 < (r.sizes (putIn bl pl k)).length := by
    rcases Nat.lt_or_ge (i + 1) (r.sizes (putIn bl pl k)).length with h | h
    · exact h
    · exfalso
      rw [List.take_of_length_le h, r.sizes_sum] at hlt
      omega
  have h1 := r.sizes_put (putIn bl pl k) (bl.drop ((r.sizes (putIn bl pl k)).take (i + 1)).sum) hi1
  have h2 : (putIn bl pl k).take ((r.sizes (putIn bl pl k)).take (i + 1)).sum = bl.take ((r.sizes (putIn bl pl k)).take (i + 1)).sum := by
    generalize ((r.sizes (putIn bl pl k)).take (i + 1)).sum = e at he ⊢
    unfold putIn
    rw [List.append_assoc, List.take_append_of_le_length (by rw [List.length_take]; omega), List.take_take, Nat.min_eq_left he]
  have hs := sum_take_succ (r.sizes (putIn bl pl k)) i hi
  have h3 := h1
  rw [h2, List.take_append_drop] at h3
  have hti : (r.sizes bl).take i = (r.sizes (putIn bl pl k)).take i := by
    rw [h3, List.take_append_of_le_length (by rw [List.length_take]; omega), List.take_take, Nat.min_eq_left (by omega)]
  have hg : (r.sizes bl)[i]? = some (r.sizes (putIn bl pl k))[i] := by
    rw [h3, List.getElem?_append_left (by rw [List.length_take]; omega), List.getElem?_take, if_pos (by omega), List.getElem?_eq_getElem hi]
  obtain ⟨hib, hg2⟩ := List.getElem?_eq_some_iff.1 hg
  refine ⟨hib, ?_⟩
  unfold pieceAt
  rw [hti, getD_of hib, getD_of hi, hg2]
  generalize ((r.sizes (putIn bl pl k)).take i).sum = a at hs ⊢
  generalize (r.sizes (putIn bl pl k))[i] = q at hs ⊢
  rw [hs] at h2 he
  have h4 := congrArg (List.drop a) h2
  rw [List.drop_take, List.drop_take, Nat.add_sub_cancel_left] at h4
  exact h4.symm
end Go.Proofs.YtcdbffgmgfblkaaDoor
