/- glyph's Out next to rows of the caller's: its value is named, and what a call changes. -/
import Derived.Test.YtbbpdcnkiljjgaaGlyT
namespace Go.Proofs.Ytbbpdcnkiljjgaa
set_option linter.unusedVariables false
set_option linter.unusedSimpArgs false
open Go.RowKit

/-- An Out, all of it made since world w0; its bytes lie in v. -/
structure OutX (w0 w : World) (g : Nat) (s : Nat × List Nat) (c : Nat) (v : Value) : Prop where
  has : OutHas w w0.heap.size g s.1 s.2 v
  q : Q w0 w
  len : s.2.length ≤ 131081 * c
/-- What a call leaves that hands the Out back: all but the Out is as it was. -/
def OutXR (w0 w : World) (g : Nat) (v : Value) (s : Nat × List Nat) (c : Nat) (e : Ending) (w' : World) : Prop := ∃ v', e = .returned (.pointer (some ⟨g, 0, none⟩)) ∧ Hid (OutX w0 w' g s c v' ∧ Only (OutS g v) w w' ∧ NewOr w v v')
section
variable {w0 w wb w' : World} {g c : Nat} {s : Nat × List Nat} {v : Value}
theorem OutN.x (h : OutN w0 w g s c) : ∃ v, OutX w0 w g s c v := by
  obtain ⟨v, h1, h2, h3⟩ := h
  exact ⟨v, h1, h2, h3⟩
theorem OutX.n (h : OutX w0 w g s c v) : OutN w0 w g s c := ⟨v, h.has, h.q, h.len⟩
theorem OutX.step (h : OutX w0 w g s c v) (hq : Q w w') : OutX w0 w' g s c v := ⟨h.has.q hq, h.q.step hq, h.len⟩
theorem OutX.more {c' : Nat} (h : OutX w0 w g s c v) (hc : c ≤ c') : OutX w0 w g s c' v := ⟨h.has, h.q, by have := h.len; omega⟩
/-- All but other blocks. -/
theorem OutX.only {S : Nat → Prop} (h : OutX w0 w g s c v) (ho : Only S w w') (hS : ∀ k, OutS g v k → ¬ S k) (hb : ∀ k, S k → w0.heap.size ≤ k) : OutX w0 w' g s c v := ⟨h.has.only ho hS, ho.q h.q hb, h.len⟩
theorem OutXR.of_back {w1 : World} {s' : Nat × List Nat} {c' : Nat} {e : Ending} (hq : Q w0 w1) (hh : OutHas w1 w0.heap.size g s.1 s.2 v) (h : OutBack w1 w0.heap.size g s' v e w') (hc : s'.2.length ≤ 131081 * c') : OutXR w0 w1 g v s' c' e w' := by
  obtain ⟨v', rfl, h4⟩ := h
  exact ⟨v', rfl, ⟨h4.has, h4.only.q hq (fun k hk => hh.ge k hk), hc⟩, h4.only, h4.newV⟩
theorem numX (h : Hid (OutX w0 w g s c v)) (z : Int) (hc : c ≤ 100000) :
    Calls Try.prog 14 #[.pointer (some ⟨g, 0, none⟩), .slice (some ⟨w.heap.size, 0, none⟩) 1 1] (w.alloc (.cells #[.int .i64 z] 3)) (OutXR w0 (w.alloc (.cells #[.int .i64 z] 3)) g v (numStep s z) (c + 1)) := by
  obtain ⟨h1, h2, h3⟩ := h.out
  obtain ⟨e, L⟩ := s
  simp only at h1 h3
  have hq : Q w (w.alloc (.cells #[.int .i64 z] 3)) := (Q.refl w).alloc _
  refine (nums_ok w0.heap.size g e 1 (some ⟨w.heap.size, 0, none⟩) [z] L v (fun k => k = w.heap.size) _ (h1.q hq) (SeesP.newAt w [.int .i64 z] 3) (fun k hk => ⟨by subst hk; rw [alloc_size]; omega, fun hO => by have := h1.lt k hO; omega⟩) (by simp; omega) (by simp)).mono ?_
  intro e' w' h4
  have := numStep_len (e, L) z
  exact OutXR.of_back (s := (e, L)) (h2.step hq) (h1.q hq) h4 (by simp only [List.foldl_cons, List.foldl_nil] at this ⊢; omega)
theorem textX (h : Hid (OutX w0 w g s c v)) (t : ByteArray) (hc : c ≤ 100000) (ht : t.size ≤ 9223372036854775807) :
    Calls Try.prog 16 #[.pointer (some ⟨g, 0, none⟩), .slice (some ⟨w.heap.size, 0, none⟩) 1 1] (w.alloc (.cells #[.string t] 9)) (OutXR w0 (w.alloc (.cells #[.string t] 9)) g v (textStep s t) (c + 1)) := by
  obtain ⟨h1, h2, h3⟩ := h.out
  obtain ⟨e, L⟩ := s
  simp only at h1 h3
  have hq : Q w (w.alloc (.cells #[.string t] 9)) := (Q.refl w).alloc _
  refine (texts_ok w0.heap.size g e 1 (some ⟨w.heap.size, 0, none⟩) [t] L v (fun k => k = w.heap.size) _ (h1.q hq) (SeesP.newAt w [.string t] 9) (fun k hk => ⟨by subst hk; rw [alloc_size]; omega, fun hO => by have := h1.lt k hO; omega⟩) (by simp; omega) (by simp) (by simpa using ht)).mono ?_
  intro e' w' h4
  have := textStep_len (e, L) t
  exact OutXR.of_back (s := (e, L)) (h2.step hq) (h1.q hq) h4 (by simp only [List.foldl_cons, List.foldl_nil] at this ⊢; omega)
theorem flagX (h : Hid (OutX w0 w g s c v)) (y : Bool) (hc : c ≤ 100000) :
    Calls Try.prog 18 #[.pointer (some ⟨g, 0, none⟩), .slice (some ⟨w.heap.size, 0, none⟩) 1 1] (w.alloc (.cells #[.bool y] 4)) (OutXR w0 (w.alloc (.cells #[.bool y] 4)) g v (flagStep s y) (c + 1)) := by
  obtain ⟨h1, h2, h3⟩ := h.out
  obtain ⟨e, L⟩ := s
  simp only at h1 h3
  have hq : Q w (w.alloc (.cells #[.bool y] 4)) := (Q.refl w).alloc _
  refine (flags_ok w0.heap.size g e 1 (some ⟨w.heap.size, 0, none⟩) [y] L v (fun k => k = w.heap.size) _ (h1.q hq) (SeesP.newAt w [.bool y] 4) (fun k hk => ⟨by subst hk; rw [alloc_size]; omega, fun hO => by have := h1.lt k hO; omega⟩) (by simp; omega) (by simp)).mono ?_
  intro e' w' h4
  have := flagSteps_len [y] (e, L)
  exact OutXR.of_back (s := (e, L)) (h2.step hq) (h1.q hq) h4 (by simp only [List.foldl_cons, List.foldl_nil, List.length_cons, List.length_nil] at this ⊢; omega)
/-- A part that was made of a text in world w. -/
theorem rawX (h : Hid (OutX w0 w g s c v)) (hq : Q w wb) (n cp : Nat) (l : List Nat) (hl : l.length = n) (hs : SeesP wb (fun k => k = w.heap.size) (some ⟨w.heap.size, 0, none⟩) (l.map B8)) (hsz : wb.heap.size = w.heap.size + 1) (hb : ∀ x ∈ l, x ≤ 255) (hn : n ≤ 131081) (hc : c ≤ 100000) :
    Calls Try.prog 19 #[.pointer (some ⟨g, 0, none⟩), .slice (some ⟨wb.heap.size, 0, none⟩) 1 1] (wb.alloc (.cells #[.slice (some ⟨w.heap.size, 0, none⟩) n cp] 23)) (OutXR w0 (wb.alloc (.cells #[.slice (some ⟨w.heap.size, 0, none⟩) n cp] 23)) g v (rawStep s l) (c + 1)) := by
  subst hl
  obtain ⟨h1, h2, h3⟩ := h.out
  obtain ⟨e, L⟩ := s
  simp only at h1 h3
  have hq2 : Q w (wb.alloc (.cells #[.slice (some ⟨w.heap.size, 0, none⟩) l.length cp] 23)) := hq.alloc _
  refine (raws_ok w0.heap.size g e 1 (some ⟨wb.heap.size, 0, none⟩) [(.slice (some ⟨w.heap.size, 0, none⟩) l.length cp, l)] L v (fun k => w.heap.size ≤ k ∧ k < w.heap.size + 2) _ (h1.q hq2) ?_ ?_ ?_ (by simp; omega) (by simp)).mono ?_
  · exact (SeesP.newAt wb [.slice (some ⟨w.heap.size, 0, none⟩) l.length cp] 23).more (fun b hb => by subst hb; omega)
  · intro z hz
    rw [List.mem_singleton] at hz
    subst hz
    exact ⟨some ⟨w.heap.size, 0, none⟩, cp, rfl, (hs.alloc (fun b hb => by subst hb; omega) _).more (fun b hb => by subst hb; omega), hb, fun h => by cases h⟩
  · rintro k ⟨hk1, hk2⟩
    refine ⟨by rw [alloc_size]; omega, fun hO => ?_⟩
    have := h1.lt k hO
    omega
  · intro e' w' h4
    refine OutXR.of_back (s := (e, L)) (h2.step hq2) (h1.q hq2) h4 ?_
    show (rawStep (e, L) l).2.length ≤ _
    unfold rawStep
    split
    · rw [List.length_append]; simp only; omega
    · simp only; omega
end
end Go.Proofs.Ytbbpdcnkiljjgaa
