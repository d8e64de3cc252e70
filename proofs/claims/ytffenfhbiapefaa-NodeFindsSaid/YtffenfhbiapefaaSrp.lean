/- The plain law of sorted: nodes in form, by rising names, each name once. -/
import Derived.Test.YtffenfhbiapefaaNfw
import Derived.Test.YtffenfhbiapefaaEnp
import Derived.Sort.Walk0
namespace Go.Proofs.Ytffenfhbiapefaa
set_option linter.unusedVariables false
set_option linter.unusedSimpArgs false
open Go.RowKit

/-- Is a name less than another? -/
def ltS (a b : ByteArray) : Bool := Op.bytesLess a.toList b.toList
theorem ltS_eq (a b : ByteArray) : ltS a b = decide (a.toList < b.toList) := by unfold ltS; exact Proofs.bytesLess_eq _ _
theorem toList_inj {a b : ByteArray} (h : a.toList = b.toList) : a = b := by
  rw [Lib.toList_data, Lib.toList_data] at h
  cases a; cases b
  simp only at h
  congr 1
  exact Array.toList_inj.1 h
theorem ltS_irrefl (a : ByteArray) : ltS a a = false := by
  rw [ltS_eq]
  exact decide_eq_false (List.lt_irrefl _)
theorem ltS_trans {a b c : ByteArray} (h : ltS a b = true) (k : ltS b c = true) : ltS a c = true := by
  rw [ltS_eq, decide_eq_true_eq] at *
  exact List.lt_trans h k
theorem ltS_tri {a b : ByteArray} (h : ltS a b = false) (k : a ≠ b) : ltS b a = true := by
  rw [ltS_eq, decide_eq_false_iff_not] at h
  rw [ltS_eq, decide_eq_true_eq]
  rcases Classical.em (b.toList < a.toList) with h1 | h1
  · exact h1
  · exact absurd (toList_inj (List.le_antisymm (List.not_lt.1 h1) (List.not_lt.1 h))) k
theorem leS_of_lt {a b : ByteArray} (h : ltS a b = true) : leS b a = false := by
  have h2 : ltS b a = false := by
    cases h3 : ltS b a with
    | false => rfl
    | true => have := ltS_trans h h3; rw [ltS_irrefl] at this; cases this
  unfold leS
  unfold ltS at h2
  rw [h2, Bool.false_or]
  cases h3 : (b.toList == a.toList) with
  | false => rfl
  | true =>
    have : b = a := toList_inj (by simpa using h3)
    subst this
    rw [ltS_irrefl] at h; cases h
theorem leS_of_lt2 {a b : ByteArray} (h : ltS a b = true) : leS a b = true := by
  unfold leS; unfold ltS at h; rw [h]; rfl
theorem leS_refl (a : ByteArray) : leS a a = true := by unfold leS; simp

/-- How many of a row come ahead of a name. -/
def placeN (out : List NdIn) (z : NdIn) : Nat := (out.takeWhile fun y => ltS y.n.name z.n.name).length
def isAt (out : List NdIn) (z : NdIn) (k : Nat) : Bool := match out[k]? with | none => false | some y => decide (y.n.name = z.n.name)
def putN (out : List NdIn) (z : NdIn) : List NdIn :=
  if checkN z.n ≠ 0 then out else if isAt out z (placeN out z) then out else out.take (placeN out z) ++ [z] ++ out.drop (placeN out z)
def sortN (zs : List NdIn) : List NdIn := zs.foldl putN []
theorem placeN_le (out : List NdIn) (z : NdIn) : placeN out z ≤ out.length := (List.takeWhile_prefix _).length_le
theorem takeWhile_at {α : Type} (p : α → Bool) : ∀ (l : List α) (k : Nat) (h : k < l.length), (∀ j (hj : j < k), p (l[j]'(by omega)) = true) → p l[k] = false → (l.takeWhile p).length = k
  | x :: l, 0, _, _, h0 => by simp at h0; simp [h0]
  | x :: l, k + 1, h, hp, h0 => by
    have hx : p x = true := hp 0 (by omega)
    rw [List.takeWhile_cons_of_pos hx, List.length_cons, takeWhile_at p l k (by simpa using h) (fun j hj => by simpa using hp (j + 1) (by omega)) (by simpa using h0)]
theorem takeWhile_all {α : Type} (p : α → Bool) : ∀ (l : List α), (∀ j (hj : j < l.length), p l[j] = true) → (l.takeWhile p).length = l.length
  | [], _ => rfl
  | x :: l, hp => by
    have hx : p x = true := hp 0 (by simp)
    rw [List.takeWhile_cons_of_pos hx, List.length_cons, takeWhile_all p l (fun j hj => hp (j + 1) (by simp; omega)), List.length_cons]
theorem takeWhile_lt {α : Type} (p : α → Bool) : ∀ (l : List α) (j : Nat) (h : j < l.length), j < (l.takeWhile p).length → p l[j] = true
  | x :: l, j, h, hj => by
    cases hx : p x with
    | false => rw [List.takeWhile_cons_of_neg (by simp [hx])] at hj; simp at hj
    | true =>
      rw [List.takeWhile_cons_of_pos hx] at hj
      cases j with
      | zero => exact hx
      | succ j => simpa using takeWhile_lt p l j (by simpa using h) (by simpa using hj)
theorem takeWhile_end {α : Type} (p : α → Bool) : ∀ (l : List α) (h : (l.takeWhile p).length < l.length), p (l[(l.takeWhile p).length]'h) = false
  | x :: l, h => by
    cases hx : p x with
    | false =>
      have e : (x :: l).takeWhile p = [] := List.takeWhile_cons_of_neg (by simp [hx])
      simp [e, hx]
    | true =>
      have e : (x :: l).takeWhile p = x :: l.takeWhile p := List.takeWhile_cons_of_pos hx
      simp only [e, List.length_cons, List.getElem_cons_succ]
      exact takeWhile_end p l (by rw [e] at h; simpa using h)
theorem putN_mem {out : List NdIn} {z y : NdIn} (h : y ∈ putN out z) : y ∈ out ∨ (y = z ∧ checkN z.n = 0) := by
  unfold putN at h
  split at h
  · exact .inl h
  · rename_i hc
    split at h
    · exact .inl h
    · rw [List.mem_append, List.mem_append] at h
      rcases h with (h | h) | h
      · exact .inl (List.mem_of_mem_take h)
      · exact .inr ⟨List.mem_singleton.1 h, Classical.not_not.1 hc⟩
      · exact .inl (List.mem_of_mem_drop h)
theorem putN_len (out : List NdIn) (z : NdIn) : (putN out z).length ≤ out.length + 1 := by
  unfold putN
  split
  · omega
  · split
    · omega
    · have := placeN_le out z
      simp only [List.length_append, List.length_take, List.length_drop, List.length_singleton]
      omega
/-- Names rise. -/
def Rises (l : List NdIn) : Prop := ∀ i j (hi : i < l.length) (hj : j < l.length), i < j → ltS l[i].n.name l[j].n.name = true
theorem putN_rises {out : List NdIn} (z : NdIn) (h : Rises out) : Rises (putN out z) := by
  unfold putN
  split
  · exact h
  · split
    · exact h
    · rename_i hc hat
      have hle := placeN_le out z
      have hb : ∀ j (hj : j < out.length), j < placeN out z → ltS out[j].n.name z.n.name = true := fun j hj hp => takeWhile_lt _ out j hj hp
      have ha : ∀ j (hj : j < out.length), placeN out z ≤ j → ltS z.n.name out[j].n.name = true := fun j hj hp => by
        have hlt : placeN out z < out.length := by omega
        have h0 : ltS out[placeN out z].n.name z.n.name = false := takeWhile_end (fun y : NdIn => ltS y.n.name z.n.name) out hlt
        have hne : out[placeN out z].n.name ≠ z.n.name := fun e => hat (by unfold isAt; rw [List.getElem?_eq_getElem hlt]; show decide _ = true; exact decide_eq_true e)
        have h1 := ltS_tri h0 hne
        rcases Nat.lt_or_ge (placeN out z) j with h2 | h2
        · exact ltS_trans h1 (h _ _ hlt hj h2)
        · have : placeN out z = j := by omega
          subst this; exact h1
      generalize placeN out z = p at *
      have hg : ∀ i (hi : i < (out.take p ++ [z] ++ out.drop p).length), (out.take p ++ [z] ++ out.drop p)[i] = if hp : i < p then out[i]'(by omega) else if hq : i = p then z else out[i - 1]'(by simp at hi; omega) := fun i hi => by
        have hl : (out.take p ++ [z]).length = p + 1 := by simp; omega
        split
        · rename_i hp
          rw [List.getElem_append_left (by omega), List.getElem_append_left (by simp; omega), List.getElem_take]
        · rename_i hp
          split
          · rename_i hq
            subst hq
            rw [List.getElem_append_left (by omega), List.getElem_append_right (by simp; omega)]
            simp
          · rename_i hq
            rw [List.getElem_append_right (by omega), List.getElem_drop]
            congr 1
            omega
      intro i j hi hj hij
      have hlen : (out.take p ++ [z] ++ out.drop p).length = out.length + 1 := by simp; omega
      rw [hg i hi, hg j hj]
      by_cases h1 : j < p
      · rw [dif_pos h1, dif_pos (by omega)]; exact h _ _ _ _ hij
      · rw [dif_neg h1]
        by_cases h2 : j = p
        · rw [dif_pos h2, dif_pos (by omega)]; exact hb i (by omega) (by omega)
        · rw [dif_neg h2]
          by_cases h3 : i < p
          · rw [dif_pos h3]; exact h _ _ _ _ (by omega)
          · rw [dif_neg h3]
            by_cases h4 : i = p
            · rw [dif_pos h4]; exact ha _ _ (by omega)
            · rw [dif_neg h4]; exact h _ _ _ _ (by omega)
theorem sortN_all (zs : List NdIn) : (∀ y ∈ sortN zs, y ∈ zs ∧ checkN y.n = 0) ∧ (sortN zs).length ≤ zs.length ∧ Rises (sortN zs) := by
  have h : ∀ (zs out : List NdIn), Rises out → (∀ y ∈ zs.foldl putN out, y ∈ out ∨ (y ∈ zs ∧ checkN y.n = 0)) ∧ (zs.foldl putN out).length ≤ out.length + zs.length ∧ Rises (zs.foldl putN out) := by
    intro zs
    induction zs with
    | nil => intro out hr; exact ⟨fun y hy => .inl hy, by simp, hr⟩
    | cons z zs ih =>
      intro out hr
      obtain ⟨h1, h2, h3⟩ := ih (putN out z) (putN_rises z hr)
      refine ⟨fun y hy => ?_, ?_, h3⟩
      · rcases h1 y hy with h | h
        · rcases putN_mem h with h | ⟨rfl, h⟩
          · exact .inl h
          · exact .inr ⟨by simp, h⟩
        · exact .inr ⟨List.mem_cons_of_mem _ h.1, h.2⟩
      · have := putN_len out z
        simp only [List.foldl_cons, List.length_cons] at h2 ⊢
        omega
  obtain ⟨h1, h2, h3⟩ := h zs [] (fun i j hi => absurd hi (by simp))
  refine ⟨fun y hy => ?_, by simpa [sortN] using h2, h3⟩
  rcases h1 y hy with h | h
  · cases h
  · exact h
theorem sortN_take {zs : List NdIn} {k : Nat} (hk : k < zs.length) : sortN (zs.take (k + 1)) = putN (sortN (zs.take k)) zs[k] := by
  unfold sortN
  rw [List.take_succ_eq_append_getElem hk, List.foldl_append]
  rfl
end Go.Proofs.Ytffenfhbiapefaa
