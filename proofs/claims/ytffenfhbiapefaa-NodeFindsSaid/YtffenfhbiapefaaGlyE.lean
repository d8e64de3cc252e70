/- glyph's Out as the laws use it: a new one, one thing more at a time; the helpers glyphs, none. -/
import Derived.Test.YtffenfhbiapefaaGlyD
import Derived.Test.YtffenfhbiapefaaStr
namespace Go.Proofs.Ytffenfhbiapefaa
set_option linter.unusedVariables false
set_option linter.unusedSimpArgs false
open Go.RowKit

/-- An Out, all of it made since world w0: c things were put in. -/
def OutN (w0 w : World) (g : Nat) (s : Nat × List Nat) (c : Nat) : Prop := ∃ v, OutHas w w0.heap.size g s.1 s.2 v ∧ Q w0 w ∧ s.2.length ≤ 131081 * c
/-- What a call leaves that hands the Out back. -/
def OutR (w0 : World) (g : Nat) (s : Nat × List Nat) (c : Nat) (e : Ending) (w' : World) : Prop := e = .returned (.pointer (some ⟨g, 0, none⟩)) ∧ Hid (OutN w0 w' g s c)
/-- A row of bytes made since world w0. -/
def GotB (w0 w : World) (L : List Nat) (v : Value) : Prop := w.ownsRow w0.heap.size 5 1 v L.length (L.map B8) ∧ Q w0 w ∧ ∀ x ∈ L, x ≤ 255
section
variable {w0 w w' : World} {g c : Nat} {s : Nat × List Nat} {L : List Nat}
theorem OutN.lower {w1 : World} (h : OutN w1 w g s c) (hq : Q w0 w1) : OutN w0 w g s c := by
  obtain ⟨v, h1, h2, h3⟩ := h
  exact ⟨v, ⟨h1.row, own_mono h1.own hq.size, h1.far, Nat.le_trans hq.size h1.new, h1.byte⟩, hq.step h2, h3⟩
theorem OutN.q (h : OutN w0 w g s c) (hq : Q w w') : OutN w0 w' g s c := by
  obtain ⟨v, h1, h2, h3⟩ := h
  exact ⟨v, h1.q hq, h2.step hq, h3⟩
theorem OutN.of_st {v : Value} {w1 w2 : World} {s' : Nat × List Nat} {v' : Value} (h : OutHas w1 w0.heap.size g s.1 s.2 v) (hq : Q w0 w1) (hst : OutSt w1 v w2 w0.heap.size g s'.1 s'.2 v') (hc : s'.2.length ≤ 131081 * c) : OutN w0 w2 g s' c :=
  ⟨v', hst.has, hst.only.q hq (fun k hk => h.ge k hk), hc⟩

theorem begin1 (w : World) (k : Nat) (hk : k ≤ 255) : Calls Try.prog 32 #[.int .u8 (k : Int)] w fun e w' => ∃ g, OutR w g (0, [72, 89, k]) 1 e w' :=
  (begin_ok k hk w).mono fun e w' ⟨g, v, h1, h2, h3⟩ => ⟨g, h1, ⟨v, h2, h3, by simp⟩⟩

theorem nums1 (h : Hid (OutN w0 w g s c)) (zs : List Int) (A : Option Addr) (cp : Nat) (hs : SeesP w (fun k => k < w0.heap.size) A (zs.map (.int .i64))) (hz : zs.length ≤ 1000) (hc : c ≤ 100000) :
    Calls Try.prog 33 #[.pointer (some ⟨g, 0, none⟩), .slice A zs.length cp] w (OutR w0 g (zs.foldl numStep s) (c + 1)) := by
  obtain ⟨v, h1, h2, h3⟩ := h.out
  obtain ⟨e, L⟩ := s
  simp only at h1 h3
  refine (nums_ok w0.heap.size g e cp A zs L v _ w h1 hs (fun k hk => ⟨Nat.lt_of_lt_of_le hk h2.size, fun hO => by have := h1.ge k hO; omega⟩) (by omega) (by omega)).mono ?_
  rintro e' w' ⟨v', rfl, h4⟩
  refine ⟨rfl, OutN.of_st (s := (e, L)) h1 h2 h4 ?_⟩
  have := numSteps_len zs (e, L)
  simp only at this
  omega
theorem num1 (h : Hid (OutN w0 w g s c)) (z : Int) (hc : c ≤ 100000) :
    Calls Try.prog 33 #[.pointer (some ⟨g, 0, none⟩), .slice (some ⟨w.heap.size, 0, none⟩) 1 1] (w.alloc (.cells #[.int .i64 z] 3)) (OutR w0 g (numStep s z) (c + 1)) := by
  obtain ⟨v, h1, h2, h3⟩ := h.out
  obtain ⟨e, L⟩ := s
  simp only at h1 h3
  have hq : Q w (w.alloc (.cells #[.int .i64 z] 3)) := (Q.refl w).alloc _
  refine (nums_ok w0.heap.size g e 1 (some ⟨w.heap.size, 0, none⟩) [z] L v (fun k => k = w.heap.size) _ (h1.q hq) (SeesP.newAt w [.int .i64 z] 3) (fun k hk => ⟨by subst hk; rw [alloc_size]; omega, fun hO => by have := h1.lt k hO; omega⟩) (by simp; omega) (by simp)).mono ?_
  rintro e' w' ⟨v', rfl, h4⟩
  refine ⟨rfl, OutN.of_st (s := (e, L)) (h1.q hq) (h2.step hq) h4 ?_⟩
  have := numStep_len (e, L) z
  simp only [List.foldl_cons, List.foldl_nil] at this ⊢
  omega
theorem numIn (h : Hid (OutN w0 w g (0, L) c)) (z : Int) (hc : c ≤ 100000) (h0 : 0 ≤ z) (h1 : z < 4611686018427387904) :
    Calls Try.prog 33 #[.pointer (some ⟨g, 0, none⟩), .slice (some ⟨w.heap.size, 0, none⟩) 1 1] (w.alloc (.cells #[.int .i64 z] 3)) (OutR w0 g (0, L ++ numL z.toNat) (c + 1)) := by
  have := num1 h z hc
  unfold numStep at this
  rw [if_pos rfl, if_pos ⟨h0, h1⟩] at this
  exact this

theorem texts1 (h : Hid (OutN w0 w g s c)) (zs : List ByteArray) (A : Option Addr) (cp : Nat) (hs : SeesP w (fun k => k < w0.heap.size) A (zs.map .string)) (hz : zs.length ≤ 1000) (hc : c ≤ 100000) (hm : ∀ t ∈ zs, t.size ≤ 9223372036854775807) :
    Calls Try.prog 50 #[.pointer (some ⟨g, 0, none⟩), .slice A zs.length cp] w (OutR w0 g (zs.foldl textStep s) (c + zs.length)) := by
  obtain ⟨v, h1, h2, h3⟩ := h.out
  obtain ⟨e, L⟩ := s
  simp only at h1 h3
  refine (texts_ok w0.heap.size g e cp A zs L v _ w h1 hs (fun k hk => ⟨Nat.lt_of_lt_of_le hk h2.size, fun hO => by have := h1.ge k hO; omega⟩) (by omega) (by omega) hm).mono ?_
  rintro e' w' ⟨v', rfl, h4⟩
  refine ⟨rfl, OutN.of_st (s := (e, L)) h1 h2 h4 ?_⟩
  have := textSteps_len zs (e, L)
  simp only at this
  omega
theorem text1 (h : Hid (OutN w0 w g s c)) (t : ByteArray) (hc : c ≤ 100000) (ht : t.size ≤ 9223372036854775807) :
    Calls Try.prog 50 #[.pointer (some ⟨g, 0, none⟩), .slice (some ⟨w.heap.size, 0, none⟩) 1 1] (w.alloc (.cells #[.string t] 9)) (OutR w0 g (textStep s t) (c + 1)) := by
  obtain ⟨v, h1, h2, h3⟩ := h.out
  obtain ⟨e, L⟩ := s
  simp only at h1 h3
  have hq : Q w (w.alloc (.cells #[.string t] 9)) := (Q.refl w).alloc _
  refine (texts_ok w0.heap.size g e 1 (some ⟨w.heap.size, 0, none⟩) [t] L v (fun k => k = w.heap.size) _ (h1.q hq) (SeesP.newAt w [.string t] 9) (fun k hk => ⟨by subst hk; rw [alloc_size]; omega, fun hO => by have := h1.lt k hO; omega⟩) (by simp; omega) (by simp) (by simpa using ht)).mono ?_
  rintro e' w' ⟨v', rfl, h4⟩
  refine ⟨rfl, OutN.of_st (s := (e, L)) (h1.q hq) (h2.step hq) h4 ?_⟩
  have := textStep_len (e, L) t
  simp only [List.foldl_cons, List.foldl_nil] at this ⊢
  omega
theorem textIn (h : Hid (OutN w0 w g (0, L) c)) (t : ByteArray) (hc : c ≤ 100000) (ht : t.size ≤ 131072) :
    Calls Try.prog 50 #[.pointer (some ⟨g, 0, none⟩), .slice (some ⟨w.heap.size, 0, none⟩) 1 1] (w.alloc (.cells #[.string t] 9)) (OutR w0 g (0, L ++ (numL t.size ++ bytesOf t)) (c + 1)) := by
  have := text1 h t hc (by omega)
  unfold textStep at this
  rw [if_pos rfl, if_pos ht] at this
  exact this

/-- The bytes that are handed back. -/
def outB (s : Nat × List Nat) : List Nat := if s.1 = 0 then s.2 else []
/-- All of its bytes. -/
theorem bytes1 (h : Hid (OutN w0 w g s c)) (hc : c ≤ 100000) : Calls Try.prog 35 #[.pointer (some ⟨g, 0, none⟩)] w fun e w' => ∃ A cp n, e = .returned (.tuple #[.slice A n cp, .int .i64 (s.1 : Int)]) ∧ Hid (n = (outB s).length) ∧ Hid (GotB w0 w' (outB s) (.slice A n cp)) := by
  obtain ⟨v, h1, h2, h3⟩ := h.out
  refine (bytes_ok _ _ _ _ _ w h1 (by omega)).mono ?_
  rintro e w' ⟨v', rfl, h4, h5⟩
  obtain ⟨A, cp, rfl⟩ := own_form h4
  refine ⟨A, cp, _, rfl, rfl, own_mono h4 h2.size, h2.step h5, ?_⟩
  unfold outB
  split
  · exact h1.byte
  · simp
theorem bytesIn (h : Hid (OutN w0 w g (0, L) c)) (hc : c ≤ 100000) : Calls Try.prog 35 #[.pointer (some ⟨g, 0, none⟩)] w fun e w' => ∃ A cp, e = .returned (.tuple #[.slice A L.length cp, .int .i64 0]) ∧ Hid (GotB w0 w' L (.slice A L.length cp)) :=
  (bytes1 h hc).mono fun e w' ⟨A, cp, n, h1, h2, h3⟩ => by
    have h2 : n = L.length := h2.out
    subst h2
    exact ⟨A, cp, h1, h3⟩
end

theorem Q.trans' {w w1 w2 : World} (h : Q w w1) (k : Q w1 w2) : Q w w2 := h.step k
/-- The same, as the laws call it. -/
theorem beginZ (w : World) (k : Nat) (z : Int) (hz : z = (k : Int)) (hk : k ≤ 255) : Calls Try.prog 32 #[.int .u8 z] w fun e w' => ∃ g, OutR w g (0, [72, 89, k]) 1 e w' := by
  subst hz; exact begin1 w k hk
theorem GotB.q {w0 w w' : World} {L : List Nat} {v : Value} (h : GotB w0 w L v) (hq : Q w w') : GotB w0 w' L v := ⟨own_only h.1 (Only.of_q (S := fun _ => False) hq) (fun _ _ => id), h.2.1.step hq, h.2.2⟩
theorem GotB.string {w0 w : World} {L : List Nat} {A : Option Addr} {n cp : Nat} (h : GotB w0 w L (.slice A n cp)) (hn : L.length = n) : (convert 40 9 (.slice A n cp)).run Try.prog w = .ok (.string (strB L)) w := by
  have h1 := h.1
  rw [hn] at h1
  exact run_convert_sees (P := Try.prog) w 40 9 5 Try.underlying40 Try.underlying5 Try.underlying9 _ A n cp L hn (sees_own h1)
end Go.Proofs.Ytffenfhbiapefaa
