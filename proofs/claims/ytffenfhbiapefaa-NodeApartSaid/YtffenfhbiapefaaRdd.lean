/- Plain: reading a node. -/
import Derived.Test.YtffenfhbiapefaaNor
import Derived.Test.YtffenfhbiapefaaGlyP
namespace Go.Proofs.Ytffenfhbiapefaa
set_option linter.unusedVariables false
set_option linter.unusedSimpArgs false
open Go.RowKit

section
/-- Reading the name of a piece. -/
def idRd (s : Nat × List Nat) : List Nat × (Nat × List Nat) := (if (rawRd 32 s).2.1 = 0 then (rawRd 32 s).1 else noId, (rawRd 32 s).2)
def idsRd : Nat → Nat × List Nat → List (List Nat) × (Nat × List Nat)
  | 0, s => ([], s)
  | n + 1, s => if s.1 ≠ 0 then ([], s) else ((idRd s).1 :: (idsRd n (idRd s).2).1, (idsRd n (idRd s).2).2)
/-- What stands ahead of what a kind has. -/
def headRd (s : Nat × List Nat) : Nd × (Nat × List Nat) :=
  let a := textRd 255 s
  let k := numRd 2 a.2
  let m := numRd 4095 k.2
  let t := numRd 1099511627776 m.2
  ({ noNd with name := strB a.1, kind := (k.1 : Int), mode := (m.1 : Int), time := (t.1 : Int) }, t.2)
def tailRd (n : Nd) (s : Nat × List Nat) : Nd × (Nat × List Nat) :=
  if n.kind = 0 then
    ({ n with size := ((numRd 1048576 s).1 : Int), ids := (idsRd (numRd ((numRd 1048576 s).1 : Int) (numRd 1048576 s).2).1 (numRd ((numRd 1048576 s).1 : Int) (numRd 1048576 s).2).2).1 },
      (idsRd (numRd ((numRd 1048576 s).1 : Int) (numRd 1048576 s).2).1 (numRd ((numRd 1048576 s).1 : Int) (numRd 1048576 s).2).2).2)
  else if n.kind = 1 then ({ n with tree := (idRd s).1 }, (idRd s).2)
  else if n.kind = 2 then ({ n with target := strB (textRd 4095 s).1 }, (textRd 4095 s).2)
  else (n, s)
def getRd (s : Nat × List Nat) : Nd × (Nat × List Nat) := tailRd (headRd s).1 (headRd s).2
section
variable {limit : Int} {s t : Nat × List Nat}
theorem numRd_stop (h : s.1 ≠ 0) : numRd limit s = (0, s) := if_neg h
theorem rawRd_stop {n : Int} (h : s.1 ≠ 0) : rawRd n s = ([], s) := if_neg h
theorem textRd_stop (h : s.1 ≠ 0) : textRd limit s = ([], s) := by
  unfold textRd
  rw [numRd_stop h, rawRd_stop h]
theorem idRd_stop (h : s.1 ≠ 0) : idRd s = (noId, s) := by
  unfold idRd
  rw [rawRd_stop h, if_neg h]
theorem idsRd_stop (n : Nat) (h : s.1 ≠ 0) : idsRd n s = ([], s) := by
  cases n with
  | zero => rfl
  | succ n => unfold idsRd; rw [if_pos h]
theorem num_sound {v : Nat} (hb : ∀ x ∈ s.2, x ≤ 255) (h : numRd limit s = (v, t)) (ht : t.1 = 0) : s.1 = 0 ∧ s.2 = numL v ++ t.2 ∧ v < 4611686018427387904 ∧ (v : Int) ≤ limit := by
  by_cases he : s.1 = 0
  · obtain ⟨e, B⟩ := s
    obtain ⟨e2, R⟩ := t
    simp only at he ht
    subst he ht
    exact ⟨rfl, numRd_once hb h⟩
  · rw [numRd_stop he, Prod.mk.injEq] at h
    rw [← h.2] at ht
    exact absurd ht he
theorem raw_sound {n : Nat} {x : List Nat} (h : rawRd (n : Int) s = (x, t)) (ht : t.1 = 0) : s.1 = 0 ∧ s.2 = x ++ t.2 ∧ x.length = n := by
  by_cases he : s.1 = 0
  · refine ⟨he, ?_⟩
    unfold rawRd at h
    rw [if_pos he, if_neg (by omega)] at h
    split at h
    · rw [Prod.mk.injEq] at h
      rw [← h.2] at ht
      exact absurd ht (by simp)
    · rename_i hl
      rw [Prod.mk.injEq] at h
      obtain ⟨h1, h2⟩ := h
      subst h1 h2
      have hl : n ≤ s.2.length := by omega
      simp [hl]
  · rw [rawRd_stop he, Prod.mk.injEq] at h
    rw [← h.2] at ht
    exact absurd ht he
theorem text_sound {x : List Nat} (hb : ∀ x ∈ s.2, x ≤ 255) (hl : limit ≤ 131072) (h : textRd limit s = (x, t)) (ht : t.1 = 0) : s.1 = 0 ∧ s.2 = numL x.length ++ x ++ t.2 ∧ (x.length : Int) ≤ limit := by
  unfold textRd at h
  rw [show min limit 131072 = limit by omega] at h
  obtain ⟨⟨v, u⟩, hv⟩ : ∃ r, numRd limit s = r := ⟨_, rfl⟩
  rw [hv] at h
  obtain ⟨h1, h2, h3⟩ := raw_sound h ht
  obtain ⟨g1, g2, g3, g4⟩ := num_sound hb hv h1
  refine ⟨g1, ?_, by rw [h3]; exact g4⟩
  rw [g2, h2, h3, List.append_assoc]
theorem id_sound {x : List Nat} (h : idRd s = (x, t)) (ht : t.1 = 0) : s.1 = 0 ∧ s.2 = x ++ t.2 ∧ x.length = 32 := by
  unfold idRd at h
  obtain ⟨⟨y, u⟩, hu⟩ : ∃ r, rawRd 32 s = r := ⟨_, rfl⟩
  rw [hu, Prod.mk.injEq] at h
  obtain ⟨h1, h2⟩ := h
  subst h2
  rw [if_pos ht] at h1
  subst h1
  exact raw_sound (n := 32) hu ht
theorem ids_sound : ∀ (n : Nat) (s t : Nat × List Nat) (l : List (List Nat)), idsRd n s = (l, t) → t.1 = 0 → s.1 = 0 ∧ s.2 = l.flatten ++ t.2 ∧ l.length = n ∧ ∀ i ∈ l, i.length = 32
  | 0, s, t, l, h, ht => by
    unfold idsRd at h
    rw [Prod.mk.injEq] at h
    obtain ⟨rfl, rfl⟩ := h
    exact ⟨ht, rfl, rfl, by simp⟩
  | n + 1, s, t, l, h, ht => by
    unfold idsRd at h
    by_cases he : s.1 = 0
    · rw [if_neg (by simp [he]), Prod.mk.injEq] at h
      obtain ⟨h1, h2⟩ := h
      obtain ⟨⟨x, u⟩, hx⟩ : ∃ r, idRd s = r := ⟨_, rfl⟩
      obtain ⟨⟨l', t'⟩, hl⟩ : ∃ r, idsRd n u = r := ⟨_, rfl⟩
      rw [hx] at h1 h2
      simp only [hl] at h1 h2
      subst h1 h2
      obtain ⟨g1, g2, g3, g4⟩ := ids_sound n u t' l' hl ht
      obtain ⟨k1, k2, k3⟩ := id_sound hx g1
      refine ⟨he, ?_, by simp [g3], fun i hi => ?_⟩
      · rw [k2, g2, List.flatten_cons, List.append_assoc]
      · rcases List.mem_cons.1 hi with rfl | hi
        · exact k3
        · exact g4 i hi
    · rw [if_pos he, Prod.mk.injEq] at h
      rw [← h.2] at ht
      exact absurd ht he
theorem bytes_tail {B X R : List Nat} (hb : ∀ x ∈ B, x ≤ 255) (h : B = X ++ R) : ∀ x ∈ R, x ≤ 255 := fun x hx => hb x (by rw [h]; simp [hx])
theorem bytes_head {B X R : List Nat} (hb : ∀ x ∈ B, x ≤ 255) (h : B = X ++ R) : ∀ x ∈ X, x ≤ 255 := fun x hx => hb x (by rw [h]; simp [hx])
end
end

section
/-- What is known of a node that was read. -/
structure WasRead (n : Nd) : Prop where
  name : n.name.size ≤ 255
  target : n.target.size ≤ 4095
  tree : n.tree.length = 32
  treeb : ∀ x ∈ n.tree, x ≤ 255
  ids : ∀ i ∈ n.ids, i.length = 32 ∧ ∀ x ∈ i, x ≤ 255
  many : n.ids.length ≤ 1048576
  only_ : n.kind = 0 ∨ n.ids = []
theorem noId_byte : ∀ x ∈ noId, x ≤ 255 := fun x hx => by
  have := List.eq_of_mem_replicate hx
  omega
theorem flat_byte {l : List (List Nat)} (h : ∀ x ∈ l.flatten, x ≤ 255) : ∀ i ∈ l, ∀ x ∈ i, x ≤ 255 := fun i hi x hx => h x (List.mem_flatten.2 ⟨i, hi, hx⟩)
theorem get_sound {s t : Nat × List Nat} {n : Nd} (hb : ∀ x ∈ s.2, x ≤ 255) (h : getRd s = (n, t)) (ht : t.1 = 0) :
    s.1 = 0 ∧ s.2 = encNd n ++ t.2 ∧ WasRead n := by
  unfold getRd headRd at h
  obtain ⟨⟨a, s1⟩, ha⟩ : ∃ r, textRd 255 s = r := ⟨_, rfl⟩
  obtain ⟨⟨k, s2⟩, hk⟩ : ∃ r, numRd 2 s1 = r := ⟨_, rfl⟩
  obtain ⟨⟨m, s3⟩, hm⟩ : ∃ r, numRd 4095 s2 = r := ⟨_, rfl⟩
  obtain ⟨⟨ti, s4⟩, hti⟩ : ∃ r, numRd 1099511627776 s3 = r := ⟨_, rfl⟩
  simp only [ha, hk, hm, hti] at h
  -- what stands ahead, once its error is 0
  have head : s4.1 = 0 → s.1 = 0 ∧ s.2 = textL (strB a) ++ numZ (k : Int) ++ numZ (m : Int) ++ numZ (ti : Int) ++ s4.2 ∧ (strB a).size ≤ 255 ∧ k ≤ 2 ∧ ∀ x ∈ s4.2, x ≤ 255 := fun h4 => by
    have e3 := (fun hb => num_sound (s := s3) hb hti h4)
    have e3z : s3.1 = 0 := by
      by_cases he : s3.1 = 0
      · exact he
      · rw [numRd_stop he, Prod.mk.injEq] at hti; rw [← hti.2] at h4; exact absurd h4 he
    have e2z : s2.1 = 0 := by
      by_cases he : s2.1 = 0
      · exact he
      · rw [numRd_stop he, Prod.mk.injEq] at hm; rw [← hm.2] at e3z; exact absurd e3z he
    have e1z : s1.1 = 0 := by
      by_cases he : s1.1 = 0
      · exact he
      · rw [numRd_stop he, Prod.mk.injEq] at hk; rw [← hk.2] at e2z; exact absurd e2z he
    obtain ⟨g1, g2, g3⟩ := text_sound hb (by omega) ha e1z
    have b1 : ∀ x ∈ s1.2, x ≤ 255 := bytes_tail hb g2
    obtain ⟨_, k2, _, k4⟩ := num_sound b1 hk e2z
    have b2 := bytes_tail b1 k2
    obtain ⟨_, m2, _, _⟩ := num_sound b2 hm e3z
    have b3 := bytes_tail b2 m2
    obtain ⟨_, t2, _, _⟩ := e3 b3
    refine ⟨g1, ?_, by rw [strB_size]; omega, by omega, bytes_tail b3 t2⟩
    have ba : ∀ x ∈ a, x ≤ 255 := fun x hx => hb x (by rw [g2]; simp [hx])
    unfold textL numZ
    rw [strB_size, bytesOf_strB ba, g2, k2, m2, t2]
    simp
  unfold tailRd at h
  simp only at h
  by_cases h0 : (k : Int) = 0
  · rw [if_pos h0] at h
    obtain ⟨⟨z, s5⟩, hz⟩ : ∃ r, numRd 1048576 s4 = r := ⟨_, rfl⟩
    obtain ⟨⟨c, s6⟩, hc⟩ : ∃ r, numRd (z : Int) s5 = r := ⟨_, rfl⟩
    obtain ⟨⟨l, s7⟩, hl⟩ : ∃ r, idsRd c s6 = r := ⟨_, rfl⟩
    simp only [hz, hc, hl, Prod.mk.injEq] at h
    obtain ⟨h1, h2⟩ := h
    subst h2
    obtain ⟨i1, i2, i3, i4⟩ := ids_sound c s6 s7 l hl ht
    have c1 : s5.1 = 0 := by
      by_cases he : s5.1 = 0
      · exact he
      · rw [numRd_stop he, Prod.mk.injEq] at hc; rw [← hc.2] at i1; exact absurd i1 he
    have z1 : s4.1 = 0 := by
      by_cases he : s4.1 = 0
      · exact he
      · rw [numRd_stop he, Prod.mk.injEq] at hz; rw [← hz.2] at c1; exact absurd c1 he
    obtain ⟨g1, g2, g3, g4, b4⟩ := head z1
    obtain ⟨_, z2, _, z4⟩ := num_sound b4 hz c1
    have b5 := bytes_tail b4 z2
    obtain ⟨_, c2, _, c4⟩ := num_sound b5 hc i1
    have b6 := bytes_tail b5 c2
    have bl := flat_byte (bytes_head b6 i2)
    subst h1
    refine ⟨g1, ?_, ⟨g3, by simp [noNd, ByteArray.size], noId_len, noId_byte, fun i hi => ⟨i4 i hi, bl i hi⟩, by simp only; omega, .inl h0⟩⟩
    unfold encNd
    simp only
    rw [if_pos h0, g2, z2, c2, i2, i3]
    simp [numZ]
  · rw [if_neg h0] at h
    by_cases h1 : (k : Int) = 1
    · rw [if_pos h1] at h
      obtain ⟨⟨x, s5⟩, hx⟩ : ∃ r, idRd s4 = r := ⟨_, rfl⟩
      simp only [hx, Prod.mk.injEq] at h
      obtain ⟨e1, e2⟩ := h
      subst e2
      obtain ⟨x1, x2, x3⟩ := id_sound hx ht
      obtain ⟨g1, g2, g3, g4, b4⟩ := head x1
      subst e1
      refine ⟨g1, ?_, ⟨g3, by simp [noNd, ByteArray.size], x3, bytes_head b4 x2, by simp [noNd], by simp [noNd], .inr rfl⟩⟩
      unfold encNd
      simp only
      rw [if_neg h0, if_pos h1, g2, x2]
      simp
    · rw [if_neg h1] at h
      by_cases h2 : (k : Int) = 2
      · rw [if_pos h2] at h
        obtain ⟨⟨x, s5⟩, hx⟩ : ∃ r, textRd 4095 s4 = r := ⟨_, rfl⟩
        simp only [hx, Prod.mk.injEq] at h
        obtain ⟨e1, e2⟩ := h
        subst e2
        have x1 : s4.1 = 0 := by
          by_cases he : s4.1 = 0
          · exact he
          · rw [textRd_stop he, Prod.mk.injEq] at hx; rw [← hx.2] at ht; exact absurd ht he
        obtain ⟨g1, g2, g3, g4, b4⟩ := head x1
        obtain ⟨_, x2, x3⟩ := text_sound b4 (by omega) hx ht
        subst e1
        have bx : ∀ y ∈ x, y ≤ 255 := fun y hy => b4 y (by rw [x2]; simp [hy])
        refine ⟨g1, ?_, ⟨g3, by simp only; rw [strB_size]; omega, noId_len, noId_byte, by simp [noNd], by simp [noNd], .inr rfl⟩⟩
        unfold encNd
        simp only
        rw [if_neg h0, if_neg h1, g2, x2]
        unfold textL
        rw [strB_size x, bytesOf_strB bx]
        simp
      · rw [if_neg h2, Prod.mk.injEq] at h
        rw [← h.2] at ht
        have := (head ht).2.2.2.1
        omega
end

section
def lastName (out : List Nd) : ByteArray := (out.getD (out.length - 1) noNd).name
def okNext (out : List Nd) (n : Nd) : Bool := decide (checkN n = 0) && (out.length == 0 || !leS n.name (lastName out))
def decLoop : Nat → List Nd → Nat × List Nat → Option (List Nd × (Nat × List Nat))
  | 0, out, s => some (out, s)
  | k + 1, out, s => if (getRd s).2.1 = 0 ∧ okNext out (getRd s).1 = true then decLoop k (out ++ [(getRd s).1]) (getRd s).2 else none
def decN (L : List Nat) : List Nd × Nat :=
  match decLoop (numRd 2000 (openRd 110 L)).1 [] (numRd 2000 (openRd 110 L)).2 with
  | none => ([], 2)
  | some (out, s) => if (endRd s).1 = 0 then (out, 0) else ([], 2)
def docLoop : Nat → List Nd → Nat × List Nat → List Nd × (Nat × List Nat)
  | 0, out, s => (out, s)
  | k + 1, out, s => if s.1 ≠ 0 then (out, s) else docLoop k (out ++ [(getRd s).1]) (getRd s).2
def docAll (L : List Nat) : List Nd × (Nat × List Nat) := docLoop (numRd 2000 (openRd 110 L)).1 [] (numRd 2000 (openRd 110 L)).2
def docDec (L : List Nat) : List Nd × Nat :=
  if (endRd (docAll L).2).1 ≠ 0 then ([], 2) else if (encN (docAll L).1).2 ≠ 0 ∨ (encN (docAll L).1).1 ≠ L then ([], 2) else ((docAll L).1, 0)
theorem end_zero {s : Nat × List Nat} : (endRd s).1 = 0 ↔ s.1 = 0 ∧ s.2 = [] := by
  unfold endRd
  by_cases h : s.2 = []
  · rw [if_pos h]; simp [h]
  · rw [if_neg h]
    unfold err1
    simp [h]
    split <;> omega
theorem risesTo_append (out : List Nd) (l : List Nd) (k : Nat) (hk : k ≤ out.length) : risesTo (out ++ l) k = risesTo out k := by
  unfold risesTo
  rw [Bool.eq_iff_iff, List.all_eq_true, List.all_eq_true]
  refine forall_congr' fun i => forall_congr' fun hi => ?_
  have hi := List.mem_range.1 hi
  have e : ∀ j, j < out.length → (out ++ l).getD j noNd = out.getD j noNd := fun j hj => by
    simp only [List.getD_eq_getElem?_getD]
    rw [List.getElem?_append_left hj]
  rw [e i (by omega), e (i - 1) (by omega)]
theorem rises_next (out : List Nd) (n : Nd) : risesTo (out ++ [n]) (out.length + 1) = (risesTo out out.length && (out.length == 0 || !leS n.name (lastName out))) := by
  rw [risesTo_succ, risesTo_append _ _ _ (Nat.le_refl _)]
  congr 1
  have e1 : (out ++ [n]).getD out.length noNd = n := by simp [List.getD_eq_getElem?_getD]
  rw [e1]
  cases h : out.length with
  | zero => simp
  | succ m =>
    have e2 : (out ++ [n]).getD (m + 1 - 1) noNd = out.getD (out.length - 1) noNd := by
      simp only [List.getD_eq_getElem?_getD]
      rw [List.getElem?_append_left (by omega), h]
    rw [e2]
    unfold lastName
    rw [h]
theorem docLoop_more : ∀ (k : Nat) (out : List Nd) (s : Nat × List Nat), ∃ r, (docLoop k out s).1 = out ++ r
  | 0, out, s => ⟨[], by simp [docLoop]⟩
  | k + 1, out, s => by
    unfold docLoop
    split
    · exact ⟨[], by simp⟩
    · obtain ⟨r, hr⟩ := docLoop_more k (out ++ [(getRd s).1]) (getRd s).2
      exact ⟨(getRd s).1 :: r, by rw [hr]; simp⟩
theorem docLoop_stop (k : Nat) (out : List Nd) (s : Nat × List Nat) (h : s.1 ≠ 0) : docLoop k out s = (out, s) := by
  cases k with
  | zero => rfl
  | succ k => unfold docLoop; rw [if_pos h]
/-- What was decoded step by step. -/
theorem decLoop_sound : ∀ (k : Nat) (out out' : List Nd) (s s' : Nat × List Nat), decLoop k out s = some (out', s') → (∀ x ∈ s.2, x ≤ 255) → (∀ n ∈ out, checkN n = 0 ∧ WasRead n) → risesTo out out.length = true →
    docLoop k out s = (out', s') ∧ (∀ n ∈ out', checkN n = 0 ∧ WasRead n) ∧ risesTo out' out'.length = true ∧ ∃ r, out' = out ++ r ∧ r.length = k ∧ s.2 = r.flatMap encNd ++ s'.2
  | 0, out, out', s, s', h, hb, hc, hr => by
    unfold decLoop at h
    injection h with h
    rw [Prod.mk.injEq] at h
    obtain ⟨rfl, rfl⟩ := h
    exact ⟨rfl, hc, hr, [], by simp, rfl, by simp⟩
  | k + 1, out, out', s, s', h, hb, hc, hr => by
    unfold decLoop at h
    split at h
    · rename_i hg
      obtain ⟨⟨n, t⟩, hn⟩ : ∃ r, getRd s = r := ⟨_, rfl⟩
      rw [hn] at hg h
      obtain ⟨hg1, hg2⟩ := hg
      obtain ⟨g1, g2, g3⟩ := get_sound hb hn hg1
      unfold okNext at hg2
      rw [Bool.and_eq_true] at hg2
      have hk := of_decide_eq_true hg2.1
      obtain ⟨a1, a2, a3, r, a4, a5, a6⟩ := decLoop_sound k (out ++ [n]) out' t s' h (bytes_tail hb g2) (fun m hm => by
        rcases List.mem_append.1 hm with hm | hm
        · exact hc m hm
        · rw [List.mem_singleton.1 hm]; exact ⟨hk, g3⟩) (by rw [List.length_append, List.length_singleton, rises_next, hr, hg2.2]; rfl)
      refine ⟨?_, a2, a3, n :: r, by rw [a4]; simp, by simp [a5], by rw [g2, a6]; simp⟩
      unfold docLoop
      rw [if_neg (by simp [g1]), hn]
      exact a1
    · cases h
/-- What the document decoded, and would write so, the program decodes. -/
theorem docLoop_ok : ∀ (k : Nat) (out out' : List Nd) (s s' : Nat × List Nat), docLoop k out s = (out', s') → s'.1 = 0 → (∀ n ∈ out', checkN n = 0) → risesTo out' out'.length = true → decLoop k out s = some (out', s')
  | 0, out, out', s, s', h, h0, hc, hr => by
    unfold docLoop at h
    unfold decLoop
    rw [h]
  | k + 1, out, out', s, s', h, h0, hc, hr => by
    unfold docLoop at h
    by_cases hs : s.1 = 0
    · rw [if_neg (by simp [hs])] at h
      have ih := docLoop_ok k _ out' _ s' h h0 hc hr
      have ht : (getRd s).2.1 = 0 := by
        by_cases ht : (getRd s).2.1 = 0
        · exact ht
        · rw [docLoop_stop _ _ _ ht, Prod.mk.injEq] at h
          rw [← h.2] at h0; exact absurd h0 ht
      obtain ⟨r, hr2⟩ := docLoop_more k (out ++ [(getRd s).1]) (getRd s).2
      rw [h] at hr2
      simp only at hr2
      unfold decLoop
      have hok : okNext out (getRd s).1 = true := by
        unfold okNext
        rw [Bool.and_eq_true]
        refine ⟨decide_eq_true (hc _ (by rw [hr2]; simp)), ?_⟩
        have h1 := risesTo_le (k := out.length + 1) hr (by rw [hr2]; simp)
        rw [hr2, risesTo_append _ _ _ (by simp), rises_next, Bool.and_eq_true] at h1
        exact h1.2
      rw [if_pos (And.intro ht hok), ih]
    · rw [if_pos hs, Prod.mk.injEq] at h
      rw [← h.2] at h0; exact absurd h0 hs
theorem open_sound {L B : List Nat} (h : openRd 110 L = (0, B)) : L = [72, 89, 110] ++ B := by
  unfold openRd at h
  split at h
  · rename_i h1
    split at h
    · simp at h
    · rename_i h2
      rw [Prod.mk.injEq] at h
      rw [show min L.length 3 = 3 by omega] at h1
      rw [← h.2, ← List.take_append_drop 3 L, h1]
      simp
  · simp at h
theorem encN_form {ns : List Nd} {L : List Nat} (h : encN ns = (L, 0)) : (∀ n ∈ ns, checkN n = 0) ∧ risesTo ns ns.length = true ∧ ns.length ≤ 2000 ∧ L = [72, 89, 110] ++ numL ns.length ++ ns.flatMap encNd := by
  unfold encN at h
  split at h
  · simp at h
  · rename_i h1
    split at h
    · rename_i h2
      rw [Prod.mk.injEq] at h
      exact absurd h.2 h2
    · rename_i h2
      split at h
      · rename_i h3
        rw [Prod.mk.injEq] at h
        refine ⟨?_, h3, by omega, h.1.symm⟩
        have : ∀ l : List Nd, firstErr l = 0 → ∀ n ∈ l, checkN n = 0 := by
          intro l
          induction l with
          | nil => intro _ n hn; cases hn
          | cons a l ih =>
            intro h n hn
            unfold firstErr at h
            split at h
            · rename_i ha
              rcases List.mem_cons.1 hn with rfl | hn
              · exact ha
              · exact ih h n hn
            · rename_i ha; exact absurd h ha
        exact this ns (Classical.not_not.1 h2)
      · simp at h
theorem encN_make {ns : List Nd} (h1 : ∀ n ∈ ns, checkN n = 0) (h2 : risesTo ns ns.length = true) (h3 : ns.length ≤ 2000) : encN ns = ([72, 89, 110] ++ numL ns.length ++ ns.flatMap encNd, 0) := by
  unfold encN
  rw [if_neg (by omega), if_neg (by rw [firstErr_none ns h1]; simp), if_pos h2]
/-- Decoding: what is told. -/
theorem decN_sound {L : List Nat} (hb : ∀ x ∈ L, x ≤ 255) : (decN L = ([], 2)) ∨ ∃ ns, decN L = (ns, 0) ∧ encN ns = (L, 0) ∧ (∀ n ∈ ns, checkN n = 0 ∧ WasRead n) ∧ docAll L = (ns, (0, [])) := by
  unfold decN docAll
  obtain ⟨⟨e, B⟩, ho⟩ : ∃ r, openRd 110 L = r := ⟨_, rfl⟩
  rw [ho]
  obtain ⟨⟨c, s⟩, hn⟩ : ∃ r, numRd 2000 (e, B) = r := ⟨_, rfl⟩
  rw [hn]
  cases hd : decLoop c [] s with
  | none => exact .inl rfl
  | some r =>
    obtain ⟨out, s'⟩ := r
    simp only
    by_cases he : (endRd s').1 = 0
    · rw [if_pos he]
      obtain ⟨e1, e2⟩ := end_zero.1 he
      have hs : s.1 = 0 := by
        by_cases hs : s.1 = 0
        · exact hs
        · have hc0 := numRd_err hn hs
          subst hc0
          unfold decLoop at hd
          injection hd with hd
          rw [Prod.mk.injEq] at hd
          rw [← hd.2] at e1; exact absurd e1 hs
      have he0 : e = 0 := by
        by_cases he0 : e = 0
        · exact he0
        · rw [numRd_stop (s := (e, B)) he0, Prod.mk.injEq] at hn
          rw [← hn.2] at hs; exact absurd hs he0
      subst he0
      have hL := open_sound ho
      have hbB := bytes_tail hb hL
      obtain ⟨_, k2, _, k4⟩ := num_sound (s := (0, B)) hbB hn hs
      obtain ⟨a1, a2, a3, r, a4, a5, a6⟩ := decLoop_sound c [] out s s' hd (bytes_tail hbB k2) (by simp) rfl
      rw [List.nil_append] at a4
      subst a4
      refine .inr ⟨out, rfl, ?_, a2, by rw [a1]; exact Prod.ext rfl (Prod.ext e1 e2)⟩
      rw [encN_make (fun n hn => (a2 n hn).1) a3 (by omega), hL]
      simp only at k2
      rw [k2, a6, e2, a5]
      simp
    · rw [if_neg he]; exact .inl rfl
theorem docDec_eq {L : List Nat} (hb : ∀ x ∈ L, x ≤ 255) : docDec L = decN L := by
  have key : ∀ ns, docAll L = (ns, (0, [])) → encN ns = (L, 0) → decN L = (ns, 0) := fun ns h1 h2 => by
    obtain ⟨f1, f2, f3, f4⟩ := encN_form h2
    unfold docAll at h1
    have h3 := docLoop_ok _ _ _ _ _ h1 rfl f1 f2
    unfold decN
    rw [h3]
    simp only
    rw [if_pos (end_zero.2 ⟨rfl, rfl⟩)]
  unfold docDec
  by_cases he : (endRd (docAll L).2).1 = 0
  · rw [if_neg (by simp [he])]
    obtain ⟨e1, e2⟩ := end_zero.1 he
    by_cases hc : (encN (docAll L).1).2 ≠ 0 ∨ (encN (docAll L).1).1 ≠ L
    · rw [if_pos hc]
      rcases decN_sound hb with h | ⟨ns, h1, h2, _, h4⟩
      · exact h.symm
      · rw [h4] at hc
        simp only at hc
        rw [h2] at hc
        simp at hc
    · rw [if_neg hc]
      have hc1 : (encN (docAll L).1).2 = 0 := Classical.not_not.1 fun h => hc (.inl h)
      have hc2 : (encN (docAll L).1).1 = L := Classical.not_not.1 fun h => hc (.inr h)
      exact (key _ (Prod.ext rfl (Prod.ext e1 e2)) (Prod.ext hc2 hc1)).symm
  · rw [if_pos he]
    rcases decN_sound hb with h | ⟨ns, h1, h2, _, h4⟩
    · exact h.symm
    · rw [h4] at he
      exact absurd (end_zero.2 ⟨rfl, rfl⟩) he
end
end Go.Proofs.Ytffenfhbiapefaa
