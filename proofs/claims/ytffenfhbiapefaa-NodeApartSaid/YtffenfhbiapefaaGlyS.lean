/- glyph's Out next to a caller's boxes: what was made since a world stays. -/
import Derived.Test.YtffenfhbiapefaaGlyR
import Derived.Test.YtffenfhbiapefaaGlyE
import Derived.Test.YtffenfhbiapefaaOpg
namespace Go.Proofs.Ytffenfhbiapefaa
set_option linter.unusedVariables false
set_option linter.unusedSimpArgs false
open Go.RowKit

/-- A part that was made of a text. -/
theorem raw1 {w0 w wb : World} {g c : Nat} {s : Nat × List Nat} (h : Hid (OutN w0 w g s c)) (hq : Q w wb) (n cp : Nat) (l : List Nat) (hl : l.length = n) (hs : SeesP wb (fun k => k = w.heap.size) (some ⟨w.heap.size, 0, none⟩) (l.map B8)) (hsz : wb.heap.size = w.heap.size + 1) (hb : ∀ x ∈ l, x ≤ 255) (hn : n ≤ 262000) (hc : c ≤ 100000) :
    Calls Try.prog 63 #[.pointer (some ⟨g, 0, none⟩), .slice (some ⟨wb.heap.size, 0, none⟩) 1 1] (wb.alloc (.cells #[.slice (some ⟨w.heap.size, 0, none⟩) n cp] 40)) (OutR w0 g (rawStep s l) (c + 2)) := by
  subst hl
  obtain ⟨v, h1, h2, h3⟩ := h.out
  obtain ⟨e, L⟩ := s
  simp only at h1 h3
  have hq2 : Q w (wb.alloc (.cells #[.slice (some ⟨w.heap.size, 0, none⟩) l.length cp] 40)) := hq.alloc _
  refine (raws_ok w0.heap.size g e 1 (some ⟨wb.heap.size, 0, none⟩) [(.slice (some ⟨w.heap.size, 0, none⟩) l.length cp, l)] L v (fun k => w.heap.size ≤ k ∧ k < w.heap.size + 2) _ (h1.q hq2) ?_ ?_ ?_ (by simp; omega) (by simp)).mono ?_
  · exact (SeesP.newAt wb [.slice (some ⟨w.heap.size, 0, none⟩) l.length cp] 40).more (fun b hb => by subst hb; omega)
  · intro z hz
    rw [List.mem_singleton] at hz
    subst hz
    exact ⟨some ⟨w.heap.size, 0, none⟩, cp, rfl, (hs.alloc (fun b hb => by subst hb; omega) _).more (fun b hb => by subst hb; omega), hb, fun h => by cases h⟩
  · rintro k ⟨hk1, hk2⟩
    refine ⟨by rw [alloc_size]; omega, fun hO => ?_⟩
    have := h1.lt k hO
    omega
  · rintro e' w' ⟨v', rfl, h4⟩
    refine ⟨rfl, OutN.of_st (s := (e, L)) (h1.q hq2) (h2.step hq2) h4 ?_⟩
    show (rawStep (e, L) l).2.length ≤ _
    unfold rawStep
    split
    · rw [List.length_append]; simp only; omega
    · simp only; omega

theorem rawStep_e (e0 : Nat) (L l : List Nat) : rawStep (e0, L) l = (e0, if e0 = 0 then L ++ l else L) := by
  unfold rawStep
  by_cases h : e0 = 0
  · subst h; rfl
  · simp only [if_neg h]
/-- What was made since world wr is as it was. -/
def Fresh (wr w w' : World) : Prop := ∀ b, wr.heap.size ≤ b → b < w.heap.size → w'.heap[b]? = w.heap[b]?
theorem Fresh.cell {wr w w' : World} (h : Fresh wr w w') {p : Addr} (h1 : wr.heap.size ≤ p.block) (h2 : p.block < w.heap.size) : w'.cell? p = w.cell? p := World.cell?_of_block (w := w) (h p.block h1 h2)
theorem Fresh.q {wr w w' w2 : World} (h : Fresh wr w w') (hs : w.heap.size ≤ w'.heap.size) (hq : Q w' w2) : Fresh wr w w2 := fun b h1 h2 => (hq.block b (by omega)).trans (h b h1 h2)
theorem Fresh.of_only {S : Nat → Prop} {wr w w' : World} (h : Only S w w') (hS : ∀ k, S k → k < wr.heap.size) : Fresh wr w w' := fun b h1 h2 => h.block b h2 (fun hb => by have := hS b hb; omega)
theorem OutN.more {w0 w : World} {g c c' : Nat} {s : Nat × List Nat} (h : OutN w0 w g s c) (hc : c ≤ c') : OutN w0 w g s c' := by
  obtain ⟨v, h1, h2, h3⟩ := h
  exact ⟨v, h1, h2, by omega⟩
/-- What a call on an Out leaves; wr is the world that the Out was told in. -/
def OutF (w0 wr w : World) (g : Nat) (s : Nat × List Nat) (c : Nat) (e : Ending) (w' : World) : Prop := e = .returned (.pointer (some ⟨g, 0, none⟩)) ∧ Hid (OutN w0 w' g s c ∧ Fresh wr w w' ∧ w.heap.size ≤ w'.heap.size)
section
variable {w0 wr w wb : World} {g c : Nat} {s : Nat × List Nat}
theorem num2 (h : Hid (OutN w0 wr g s c)) (hq : Q wr w) (z : Int) (hc : c ≤ 100000) :
    Calls Try.prog 33 #[.pointer (some ⟨g, 0, none⟩), .slice (some ⟨w.heap.size, 0, none⟩) 1 1] (w.alloc (.cells #[.int .i64 z] 3)) (OutF w0 wr (w.alloc (.cells #[.int .i64 z] 3)) g (numStep s z) (c + 1)) := by
  obtain ⟨v, h1, h2, h3⟩ := h.out
  obtain ⟨e, L⟩ := s
  simp only at h1 h3
  have hlt := h1.lt
  have hq2 : Q wr (w.alloc (.cells #[.int .i64 z] 3)) := hq.alloc _
  have hwr := hq.size
  refine (nums_ok w0.heap.size g e 1 (some ⟨w.heap.size, 0, none⟩) [z] L v (fun k => k = w.heap.size) _ (h1.q hq2) (SeesP.newAt w [.int .i64 z] 3) (fun k hk => ⟨by subst hk; rw [alloc_size]; omega, fun hO => by have := hlt k hO; omega⟩) (by simp; omega) (by simp)).mono ?_
  rintro e' w' ⟨v', rfl, h4⟩
  refine ⟨rfl, OutN.of_st (s := (e, L)) (h1.q hq2) (h2.step hq2) h4 ?_, Fresh.of_only h4.only hlt, h4.only.size⟩
  have := numStep_len (e, L) z
  simp only [List.foldl_cons, List.foldl_nil] at this ⊢
  omega
theorem text2 (h : Hid (OutN w0 wr g s c)) (hq : Q wr w) (t : ByteArray) (hc : c ≤ 100000) (ht : t.size ≤ 9223372036854775807) :
    Calls Try.prog 50 #[.pointer (some ⟨g, 0, none⟩), .slice (some ⟨w.heap.size, 0, none⟩) 1 1] (w.alloc (.cells #[.string t] 9)) (OutF w0 wr (w.alloc (.cells #[.string t] 9)) g (textStep s t) (c + 1)) := by
  obtain ⟨v, h1, h2, h3⟩ := h.out
  obtain ⟨e, L⟩ := s
  simp only at h1 h3
  have hlt := h1.lt
  have hq2 : Q wr (w.alloc (.cells #[.string t] 9)) := hq.alloc _
  have hwr := hq.size
  refine (texts_ok w0.heap.size g e 1 (some ⟨w.heap.size, 0, none⟩) [t] L v (fun k => k = w.heap.size) _ (h1.q hq2) (SeesP.newAt w [.string t] 9) (fun k hk => ⟨by subst hk; rw [alloc_size]; omega, fun hO => by have := hlt k hO; omega⟩) (by simp; omega) (by simp) (by simpa using ht)).mono ?_
  rintro e' w' ⟨v', rfl, h4⟩
  refine ⟨rfl, OutN.of_st (s := (e, L)) (h1.q hq2) (h2.step hq2) h4 ?_, Fresh.of_only h4.only hlt, h4.only.size⟩
  have := textStep_len (e, L) t
  simp only [List.foldl_cons, List.foldl_nil] at this ⊢
  omega
theorem raw2 (h : Hid (OutN w0 wr g s c)) (hq0 : Q wr w) (hq : Q w wb) (n cp : Nat) (l : List Nat) (hl : l.length = n) (hs : SeesP wb (fun k => k = w.heap.size) (some ⟨w.heap.size, 0, none⟩) (l.map B8)) (hsz : wb.heap.size = w.heap.size + 1) (hb : ∀ x ∈ l, x ≤ 255) (hn : n ≤ 262000) (hc : c ≤ 100000) :
    Calls Try.prog 63 #[.pointer (some ⟨g, 0, none⟩), .slice (some ⟨wb.heap.size, 0, none⟩) 1 1] (wb.alloc (.cells #[.slice (some ⟨w.heap.size, 0, none⟩) n cp] 40)) (OutF w0 wr (wb.alloc (.cells #[.slice (some ⟨w.heap.size, 0, none⟩) n cp] 40)) g (rawStep s l) (c + 2)) := by
  subst hl
  obtain ⟨v, h1, h2, h3⟩ := h.out
  obtain ⟨e, L⟩ := s
  simp only at h1 h3
  have hlt := h1.lt
  have hwr := hq0.size
  have hq2 : Q wr (wb.alloc (.cells #[.slice (some ⟨w.heap.size, 0, none⟩) l.length cp] 40)) := (hq0.trans' hq).alloc _
  refine (raws_ok w0.heap.size g e 1 (some ⟨wb.heap.size, 0, none⟩) [(.slice (some ⟨w.heap.size, 0, none⟩) l.length cp, l)] L v (fun k => w.heap.size ≤ k ∧ k < w.heap.size + 2) _ (h1.q hq2) ?_ ?_ ?_ (by simp; omega) (by simp)).mono ?_
  · exact (SeesP.newAt wb [.slice (some ⟨w.heap.size, 0, none⟩) l.length cp] 40).more (fun b hb => by subst hb; omega)
  · intro z hz
    rw [List.mem_singleton] at hz
    subst hz
    exact ⟨some ⟨w.heap.size, 0, none⟩, cp, rfl, (hs.alloc (fun b hb => by subst hb; omega) _).more (fun b hb => by subst hb; omega), hb, fun h => by cases h⟩
  · rintro k ⟨hk1, hk2⟩
    refine ⟨by rw [alloc_size]; omega, fun hO => ?_⟩
    have := hlt k hO
    omega
  · rintro e' w' ⟨v', rfl, h4⟩
    refine ⟨rfl, OutN.of_st (s := (e, L)) (h1.q hq2) (h2.step hq2) h4 ?_, Fresh.of_only h4.only hlt, h4.only.size⟩
    show (rawStep (e, L) l).2.length ≤ _
    unfold rawStep
    split
    · rw [List.length_append]; simp only; omega
    · simp only; omega
end
end Go.Proofs.Ytffenfhbiapefaa
