/- Plain: a directory's items as bytes. -/
import Derived.Test.YtffenfhbiapefaaPut
namespace Go.Proofs.Ytffenfhbiapefaa
set_option linter.unusedVariables false
set_option linter.unusedSimpArgs false
open Go.RowKit

def textL (s : ByteArray) : List Nat := numL s.size ++ bytesOf s
def numZ (z : Int) : List Nat := numL z.toNat
/-- A node's bytes. -/
def encNd (n : Nd) : List Nat :=
  textL n.name ++ numZ n.kind ++ numZ n.mode ++ numZ n.time ++
    (if n.kind = 0 then numZ n.size ++ numL n.ids.length ++ n.ids.flatten else if n.kind = 1 then n.tree else textL n.target)
theorem numStep_in (L : List Nat) {z : Int} (h0 : 0 ≤ z) (h1 : z < 4611686018427387904) : numStep (0, L) z = (0, L ++ numZ z) := by
  unfold numStep numZ
  rw [if_pos rfl, if_pos ⟨h0, h1⟩]
theorem textStep_in (L : List Nat) {s : ByteArray} (h : s.size ≤ 131072) : textStep (0, L) s = (0, L ++ textL s) := by
  unfold textStep textL
  rw [if_pos rfl, if_pos h]
theorem rawFold_in (ids : List (List Nat)) : ∀ L : List Nat, ids.foldl rawStep (0, L) = (0, L ++ ids.flatten) := by
  induction ids with
  | nil => intro L; simp
  | cons i ids ih =>
    intro L
    rw [List.foldl_cons, show rawStep (0, L) i = (0, L ++ i) by unfold rawStep; rw [if_pos rfl], ih, List.flatten_cons, List.append_assoc]
/-- What is known of a node in form. -/
structure GoodNd (n : Nd) : Prop where
  name : n.name.size ≤ 255
  nm : nameB n.name = true
  mode : 0 ≤ n.mode ∧ n.mode ≤ 4095
  time : 0 ≤ n.time ∧ n.time ≤ 1099511627776
  kind : n.kind = 0 ∨ n.kind = 1 ∨ n.kind = 2
  file : n.kind = 0 → n.target.toList = [] ∧ n.tree = noId ∧ (0 ≤ n.size ∧ n.size ≤ 1048576) ∧ (n.ids.length : Int) ≤ n.size ∧ ((n.ids.length : Int) = 0 ↔ n.size = 0)
  dir : n.kind = 1 → n.target.toList = [] ∧ (n.ids.length : Int) = 0 ∧ n.size = 0
  link : n.kind = 2 → (1 ≤ (n.target.size : Int) ∧ (n.target.size : Int) ≤ 4095) ∧ (n.ids.length : Int) = 0 ∧ n.size = 0 ∧ n.tree = noId
theorem good_of {n : Nd} (h : checkN n = 0) : GoodNd n := by
  unfold checkN at h
  split at h
  · rename_i hn
    split at h
    · rename_i hc
      simp only [Bool.and_eq_true] at hc
      obtain ⟨⟨h1, h2⟩, h3⟩ := hc
      have h1 := of_decide_eq_true h1
      have h2 := of_decide_eq_true h2
      unfold fitsB fitsP at h3
      have hs : n.name.size ≤ 255 := by
        unfold nameB at hn
        rw [Bool.and_eq_true] at hn
        have := (of_decide_eq_true hn.1).2.1
        omega
      by_cases k0 : n.kind = 0
      · rw [if_pos k0] at h3
        have h4 := of_decide_eq_true h3
        simp only [decide_eq_true_eq] at h4
        exact ⟨hs, hn, h1, h2, .inl k0, fun _ => h4, fun h => by omega, fun h => by omega⟩
      · rw [if_neg k0] at h3
        by_cases k1 : n.kind = 1
        · rw [if_pos k1] at h3
          have h4 := of_decide_eq_true h3
          exact ⟨hs, hn, h1, h2, .inr (.inl k1), fun h => by omega, fun _ => h4, fun h => by omega⟩
        · rw [if_neg k1] at h3
          by_cases k2 : n.kind = 2
          · rw [if_pos k2] at h3
            have h4 := of_decide_eq_true h3
            simp only [decide_eq_true_eq] at h4
            exact ⟨hs, hn, h1, h2, .inr (.inr k2), fun h => by omega, fun h => by omega, fun _ => h4⟩
          · rw [if_neg k2] at h3; cases h3
    · cases h
  · cases h
theorem putStep_in {n : Nd} (h : GoodNd n) (L : List Nat) : putStep (0, L) n = (0, L ++ encNd n) := by
  have e : [n.kind, n.mode, n.time].foldl numStep (textStep (0, L) n.name) = (0, L ++ (textL n.name ++ numZ n.kind ++ numZ n.mode ++ numZ n.time)) := by
    have hk : 0 ≤ n.kind ∧ n.kind < 4611686018427387904 := by rcases h.kind with h | h | h <;> omega
    have hm := h.mode
    have ht := h.time
    rw [textStep_in L (by have := h.name; omega), List.foldl_cons, List.foldl_cons, List.foldl_cons, List.foldl_nil, numStep_in _ hk.1 hk.2, numStep_in _ hm.1 (by omega), numStep_in _ ht.1 (by omega)]
    simp only [List.append_assoc]
  unfold putStep encNd
  simp only [e]
  rcases h.kind with k | k | k
  · have hf := h.file k
    rw [if_pos k, if_pos k, List.foldl_cons, List.foldl_cons, List.foldl_nil, numStep_in _ hf.2.2.1.1 (by omega), numStep_in _ (by omega) (by omega), rawFold_in]
    simp only [numZ, Int.toNat_natCast, List.append_assoc]
  · rw [if_neg (by omega), if_pos k, if_neg (by omega), if_pos k, rawFold_in]
    simp only [List.flatten_cons, List.flatten_nil, List.append_nil, List.append_assoc]
  · have hl := h.link k
    rw [if_neg (by omega), if_neg (by omega), if_pos k, if_neg (by omega), if_neg (by omega), textStep_in _ (by omega)]
    simp only [List.append_assoc]
theorem encNd_len {n : Nd} (h : GoodNd n) (hi : ∀ i ∈ n.ids, i.length = 32) (hp : n.ids.length ≤ 5000) (ht : n.tree.length = 32) : (encNd n).length ≤ 200000 := by
  have b : ∀ s : ByteArray, (bytesOf s).length = s.size := fun s => bytesOf_len s
  have nl : ∀ z : Int, 0 ≤ z → z < 4611686018427387904 → (numZ z).length ≤ 9 := fun z h0 h1 => numL_nine (by omega)
  have hk : 0 ≤ n.kind ∧ n.kind < 4611686018427387904 := by rcases h.kind with h | h | h <;> omega
  have h1 := nl n.kind hk.1 hk.2
  have h2 := nl n.mode h.mode.1 (by have := h.mode; omega)
  have h3 := nl n.time h.time.1 (by have := h.time; omega)
  have h4 : (textL n.name).length ≤ 264 := by
    unfold textL
    rw [List.length_append, b]
    have := numL_nine (n := n.name.size) (by have := h.name; omega)
    have := h.name
    omega
  have h5 : (if n.kind = 0 then numZ n.size ++ numL n.ids.length ++ n.ids.flatten else if n.kind = 1 then n.tree else textL n.target).length ≤ 170000 := by
    rcases h.kind with k | k | k
    · have hf := h.file k
      have h6 := nl n.size hf.2.2.1.1 (by omega)
      have h7 := numL_nine (n := n.ids.length) (by omega)
      have h8 : n.ids.flatten.length = n.ids.length * 32 := by
        have : ∀ ids : List (List Nat), (∀ i ∈ ids, i.length = 32) → ids.flatten.length = ids.length * 32 := fun ids => by
          induction ids with
          | nil => intro _; rfl
          | cons i ids ih => intro h; rw [List.flatten_cons, List.length_append, h i (by simp), ih (fun j hj => h j (List.mem_cons_of_mem _ hj)), List.length_cons]; omega
        exact this n.ids hi
      rw [if_pos k, List.length_append, List.length_append, h8]
      omega
    · rw [if_neg (by omega), if_pos k, ht]; omega
    · have hl := h.link k
      rw [if_neg (by omega), if_neg (by omega)]
      unfold textL
      rw [List.length_append, b]
      have := numL_nine (n := n.target.size) (by omega)
      omega
  unfold encNd
  simp only [List.length_append] at h5 ⊢
  omega
/-- Is a name no greater than another? -/
def leS (a b : ByteArray) : Bool := Op.bytesLess a.toList b.toList || a.toList == b.toList
def firstErr : List Nd → Nat
  | [] => 0
  | n :: l => if checkN n = 0 then firstErr l else checkN n
/-- Are the names rising, of the first k? -/
def risesTo (l : List Nd) (k : Nat) : Bool := (List.range k).all fun i => i == 0 || !leS (l.getD i noNd).name (l.getD (i - 1) noNd).name
def encN (l : List Nd) : List Nat × Nat :=
  if 2000 < l.length then ([], 4) else if firstErr l ≠ 0 then ([], firstErr l) else if risesTo l l.length then ([72, 89, 110] ++ numL l.length ++ l.flatMap encNd, 0) else ([], 2)
theorem firstErr_at : ∀ (l : List Nd) (k : Nat) (hk : k < l.length), (∀ j (h : j < k), checkN (l[j]'(by omega)) = 0) → checkN l[k] ≠ 0 → firstErr l = checkN l[k]
  | n :: l, 0, hk, _, h => by unfold firstErr; rw [if_neg (by simpa using h)]; rfl
  | n :: l, k + 1, hk, hj, h => by
    have h0 := hj 0 (by omega)
    unfold firstErr
    rw [if_pos (by simpa using h0)]
    exact firstErr_at l k (by simpa using hk) (fun j hj' => by simpa using hj (j + 1) (by omega)) (by simpa using h)
theorem firstErr_none : ∀ (l : List Nd), (∀ n ∈ l, checkN n = 0) → firstErr l = 0
  | [], _ => rfl
  | n :: l, h => by unfold firstErr; rw [if_pos (h n (by simp))]; exact firstErr_none l fun m hm => h m (List.mem_cons_of_mem _ hm)
theorem risesTo_succ (l : List Nd) (k : Nat) : risesTo l (k + 1) = (risesTo l k && (k == 0 || !leS (l.getD k noNd).name (l.getD (k - 1) noNd).name)) := by
  unfold risesTo
  rw [List.range_succ, List.all_append]
  simp
theorem risesTo_le {l : List Nd} {k m : Nat} (h : risesTo l m = true) (hk : k ≤ m) : risesTo l k = true := by
  unfold risesTo at *
  rw [List.all_eq_true] at *
  exact fun i hi => h i (List.mem_range.2 (by have := List.mem_range.1 hi; omega))
end Go.Proofs.Ytffenfhbiapefaa
