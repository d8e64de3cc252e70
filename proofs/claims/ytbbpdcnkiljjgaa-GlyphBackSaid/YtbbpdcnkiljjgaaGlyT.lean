/- Things of chapter 06's laws: what they are; kind, none; a part that was made of a text. -/
import Derived.Test.YtbbpdcnkiljjgaaGlyR
import Derived.Test.YtbbpdcnkiljjgaaGlyE
import Derived.Test.YtbbpdcnkiljjgaaGlyL
import Derived.Test.YtbbpdcnkiljjgaaOpg
namespace Go.Proofs.Ytbbpdcnkiljjgaa
set_option linter.unusedVariables false
set_option linter.unusedSimpArgs false
open Go.RowKit

abbrev Thing := Int × Int × ByteArray
def thingC (t : Thing) : List Value := [.int .i64 t.1, .int .i64 t.2.1, .string t.2.2]
def ThingR (cs : List Value) (t : Thing) : Prop := cs = thingC t ∧ (Lit.int .i64 t.1).wf = true ∧ (Lit.int .i64 t.2.1).wf = true ∧ t.2.2.size ≤ maxLen
theorem thing_opens {H : Type} {enc : TypeId × Value → H} {w : World} {held : Bool} : Opens enc Try.prog w held 33 ThingR := fun n cs x h => by
  obtain ⟨hl, hf⟩ := Opens.field Try.underlying33 h
  have hl : cs.length = 3 := hl.trans (by kernel_rfl)
  obtain ⟨a, ha1, ha2⟩ := hf 0 _ rfl (Opens.int Try.underlying3)
  obtain ⟨b, hb1, hb2⟩ := hf 1 _ rfl (Opens.int Try.underlying3)
  obtain ⟨c, hc1, hc2⟩ := hf 2 _ rfl (Opens.string Try.underlying9)
  have e1 : Try.prog.cellsOf 3 = 1 := by kernel_rfl
  have e2 : Try.prog.cellsOf 9 = 1 := by kernel_rfl
  have ha1 : (cs.drop 0).take (Try.prog.cellsOf 3) = _ := ha1
  have hb1 : (cs.drop 1).take (Try.prog.cellsOf 3) = _ := hb1
  have hc1 : (cs.drop 2).take (Try.prog.cellsOf 9) = _ := hc1
  rw [e1] at ha1 hb1
  rw [e2] at hc1
  match cs, hl with
  | [c0, c1, c2], _ =>
    simp at ha1 hb1 hc1
    subst ha1 hb1 hc1
    exact ⟨(a, b, c), rfl, ha2, hb2, hc2⟩
theorem rowOf_things {H : Type} {enc : TypeId × Value → H} {w : World} {held : Bool} {a : Option Addr} {n c : Nat} {d : DataW H} {ps : List MemPlace} (h : DataW.Trod enc Try.prog w 0 (fun _ => true) held 22 (.slice a n c) d ps) : ∃ zs, RowOfR w 3 ThingR a n c zs := by
  obtain ⟨fuel, hf⟩ := h
  obtain ⟨⟨A, n', c', zs⟩, h1, h2⟩ := Opens.slice Try.underlying22 3 (by kernel_rfl) (by omega) thing_opens _ _ _ hf
  simp [Value.cells] at h1
  obtain ⟨rfl, rfl, rfl⟩ := h1
  exact ⟨zs, h2⟩

/-- Which of four a thing is. -/
def kindOf (a : Int) : Nat := (IntKind.u64.wrap a).toNat % 4
set_option maxHeartbeats 1000000 in
theorem kind_ok (a b : Int) (s : ByteArray) (w : World) : Calls Try.prog 13 #[.agg #[.int .i64 a, .int .i64 b, .string s]] w fun e w' => e = .returned (.int .i64 (kindOf a : Int)) ∧ Q w w' := by
  obtain ⟨u, hu, hub⟩ := wrap_u64 a
  have HK : Hid (kindOf a = u % 4) := by show _ = _; unfold kindOf; rw [hu]; omega
  go_enter Try.func13, Try.ntmps13
  go_wp2_with fail
  go_ret
  exact ⟨by rw [HK.out]; rfl, (Q.refl w).alloc _⟩
theorem none_ok (w : World) : Calls Try.prog 8 #[] w fun e w' => e = .returned (.pointer none) ∧ w = w' := by
  go_enter Try.func8, Try.ntmps8
  go_wp2_with fail
  go_ret
  exact ⟨rfl, rfl⟩
/-- A part that was made of a text. -/
theorem raw1 {w0 w wb : World} {g c : Nat} {s : Nat × List Nat} (h : Hid (OutN w0 w g s c)) (hq : Q w wb) (n cp : Nat) (l : List Nat) (hl : l.length = n) (hs : SeesP wb (fun k => k = w.heap.size) (some ⟨w.heap.size, 0, none⟩) (l.map B8)) (hsz : wb.heap.size = w.heap.size + 1) (hb : ∀ x ∈ l, x ≤ 255) (hn : n ≤ 262000) (hc : c ≤ 100000) :
    Calls Try.prog 19 #[.pointer (some ⟨g, 0, none⟩), .slice (some ⟨wb.heap.size, 0, none⟩) 1 1] (wb.alloc (.cells #[.slice (some ⟨w.heap.size, 0, none⟩) n cp] 23)) (OutR w0 g (rawStep s l) (c + 2)) := by
  subst hl
  obtain ⟨v, h1, h2, h3⟩ := h.out
  obtain ⟨e, L⟩ := s
  simp only at h1 h3
  have hq2 : Q w (wb.alloc (.cells #[.slice (some ⟨w.heap.size, 0, none⟩) l.length cp] 23)) := hq.alloc _
  refine (raws_ok w0.heap.size g e 1 (some ⟨wb.heap.size, 0, none⟩) [(.slice (some ⟨w.heap.size, 0, none⟩) l.length cp, l)] L v (fun k => w.heap.size ≤ k ∧ k < w.heap.size + 2) _ (h1.q hq2) ?_ ?_ ?_ (by simp; omega) (by simp)).mono ?_
  · exact (SeesP.newAt wb [.slice (some ⟨w.heap.size, 0, none⟩) l.length cp] 23).more (fun b hb => by subst hb; omega)
  · intro z hz
    rw [List.mem_singleton] at hz
    subst hz
    exact ⟨some ⟨w.heap.size, 0, none⟩, cp, rfl, (hs.alloc (fun b hb => by subst hb; omega) _).more (fun b hb => by subst hb; omega), hb, fun h => by cases h⟩
  · rintro k ⟨hk1, hk2⟩
    refine ⟨by rw [alloc_size]; omega, fun hO => ?_⟩
    have := h1.lt k hO
    omega
  · rintro e' w' ⟨v', rfl, h4⟩
    refine ⟨rfl, OutN.of_st (s := (e, L)) (h1.q hq2) (h2.step hq2) h4 ?_⟩
    show (rawStep (e, L) l).2.length ≤ _
    unfold rawStep
    split
    · rw [List.length_append]; simp only; omega
    · simp only; omega

theorem rawStep_e (e0 : Nat) (L l : List Nat) : rawStep (e0, L) l = (e0, if e0 = 0 then L ++ l else L) := by
  unfold rawStep
  by_cases h : e0 = 0
  · subst h; rfl
  · simp only [if_neg h]
/-- A thing that was just put into a variable. -/
theorem thing_new {wr w' : World} {t0 t1 : Int} {t2 : ByteArray} {ty : TypeId} (h : Q (wr.alloc (.cells #[.int .i64 t0, .int .i64 t1, .string t2] ty)) w') :
    wr.heap.size < w'.heap.size ∧ w'.cell? ⟨wr.heap.size, 0, none⟩ = some (.int .i64 t0) ∧ w'.cell? ⟨wr.heap.size, 1, none⟩ = some (.int .i64 t1) ∧ w'.cell? ⟨wr.heap.size, 2, none⟩ = some (.string t2) := by
  have hs := h.size
  rw [alloc_size] at hs
  have hlt : wr.heap.size < (wr.alloc (.cells #[.int .i64 t0, .int .i64 t1, .string t2] ty)).heap.size := by rw [alloc_size]; omega
  have hn := heap_alloc_new wr (.cells #[.int .i64 t0, .int .i64 t1, .string t2] ty)
  refine ⟨by omega, ?_, ?_, ?_⟩
  · rw [Below.cell (p := ⟨wr.heap.size, 0, none⟩) h hlt]; simp only [World.cell?, hn]; rfl
  · rw [Below.cell (p := ⟨wr.heap.size, 1, none⟩) h hlt]; simp only [World.cell?, hn]; rfl
  · rw [Below.cell (p := ⟨wr.heap.size, 2, none⟩) h hlt]; simp only [World.cell?, hn]; rfl

/-- What was made since world wr is as it was. -/
def Fresh (wr w w' : World) : Prop := ∀ b, wr.heap.size ≤ b → b < w.heap.size → w'.heap[b]? = w.heap[b]?
theorem Fresh.cell {wr w w' : World} (h : Fresh wr w w') {p : Addr} (h1 : wr.heap.size ≤ p.block) (h2 : p.block < w.heap.size) : w'.cell? p = w.cell? p := World.cell?_of_block (w := w) (h p.block h1 h2)
theorem Fresh.q {wr w w' w2 : World} (h : Fresh wr w w') (hs : w.heap.size ≤ w'.heap.size) (hq : Q w' w2) : Fresh wr w w2 := fun b h1 h2 => (hq.block b (by omega)).trans (h b h1 h2)
theorem Fresh.of_only {S : Nat → Prop} {wr w w' : World} (h : Only S w w') (hS : ∀ k, S k → k < wr.heap.size) : Fresh wr w w' := fun b h1 h2 => h.block b h2 (fun hb => by have := hS b hb; omega)
theorem thing_past {wr w4 w5 : World} {o : Obj} {j : Nat} {v : Value} (h : Fresh wr (w4.alloc o) w5) (hlt : wr.heap.size < w4.heap.size) (hx : w4.cell? ⟨wr.heap.size, j, none⟩ = some v) : w5.cell? ⟨wr.heap.size, j, none⟩ = some v := by
  rw [h.cell (p := ⟨wr.heap.size, j, none⟩) (Nat.le_refl _) (by rw [alloc_size]; exact Nat.lt_succ_of_lt hlt), World.cell?_alloc_lt w4 o _ hlt]; exact hx
theorem OutN.more {w0 w : World} {g c c' : Nat} {s : Nat × List Nat} (h : OutN w0 w g s c) (hc : c ≤ c') : OutN w0 w g s c' := by
  obtain ⟨v, h1, h2, h3⟩ := h
  exact ⟨v, h1, h2, by omega⟩
/-- What a call on an Out leaves; wr is the world that the Out was told in. -/
def OutF (w0 wr w : World) (g : Nat) (s : Nat × List Nat) (c : Nat) (e : Ending) (w' : World) : Prop := e = .returned (.pointer (some ⟨g, 0, none⟩)) ∧ Hid (OutN w0 w' g s c ∧ Fresh wr w w' ∧ w.heap.size ≤ w'.heap.size)
section
variable {w0 wr w wb : World} {g c : Nat} {s : Nat × List Nat}
theorem num2 (h : Hid (OutN w0 wr g s c)) (hq : Q wr w) (z : Int) (hc : c ≤ 100000) :
    Calls Try.prog 14 #[.pointer (some ⟨g, 0, none⟩), .slice (some ⟨w.heap.size, 0, none⟩) 1 1] (w.alloc (.cells #[.int .i64 z] 3)) (OutF w0 wr (w.alloc (.cells #[.int .i64 z] 3)) g (numStep s z) (c + 1)) := by
  obtain ⟨v, h1, h2, h3⟩ := h.out
  obtain ⟨e, L⟩ := s
  simp only at h1 h3
  have hlt := h1.lt
  have hq2 : Q wr (w.alloc (.cells #[.int .i64 z] 3)) := hq.alloc _
  have hwr := hq.size
  refine (nums_ok w0.heap.size g e 1 (some ⟨w.heap.size, 0, none⟩) [z] L v (fun k => k = w.heap.size) _ (h1.q hq2) (SeesP.newAt w [.int .i64 z] 3) (fun k hk => ⟨by subst hk; rw [alloc_size]; omega, fun hO => by have := hlt k hO; omega⟩) (by simp; omega) (by simp)).mono ?_
  rintro e' w' ⟨v', rfl, h4⟩
  refine ⟨rfl, OutN.of_st (s := (e, L)) (h1.q hq2) (h2.step hq2) h4 ?_, Fresh.of_only h4.only hlt, h4.only.size⟩
  have := numStep_len (e, L) z
  simp only [List.foldl_cons, List.foldl_nil] at this ⊢
  omega
theorem text2 (h : Hid (OutN w0 wr g s c)) (hq : Q wr w) (t : ByteArray) (hc : c ≤ 100000) (ht : t.size ≤ 9223372036854775807) :
    Calls Try.prog 16 #[.pointer (some ⟨g, 0, none⟩), .slice (some ⟨w.heap.size, 0, none⟩) 1 1] (w.alloc (.cells #[.string t] 9)) (OutF w0 wr (w.alloc (.cells #[.string t] 9)) g (textStep s t) (c + 1)) := by
  obtain ⟨v, h1, h2, h3⟩ := h.out
  obtain ⟨e, L⟩ := s
  simp only at h1 h3
  have hlt := h1.lt
  have hq2 : Q wr (w.alloc (.cells #[.string t] 9)) := hq.alloc _
  have hwr := hq.size
  refine (texts_ok w0.heap.size g e 1 (some ⟨w.heap.size, 0, none⟩) [t] L v (fun k => k = w.heap.size) _ (h1.q hq2) (SeesP.newAt w [.string t] 9) (fun k hk => ⟨by subst hk; rw [alloc_size]; omega, fun hO => by have := hlt k hO; omega⟩) (by simp; omega) (by simp) (by simpa using ht)).mono ?_
  rintro e' w' ⟨v', rfl, h4⟩
  refine ⟨rfl, OutN.of_st (s := (e, L)) (h1.q hq2) (h2.step hq2) h4 ?_, Fresh.of_only h4.only hlt, h4.only.size⟩
  have := textStep_len (e, L) t
  simp only [List.foldl_cons, List.foldl_nil] at this ⊢
  omega
theorem flag2 (h : Hid (OutN w0 wr g s c)) (hq : Q wr w) (y : Bool) (hc : c ≤ 100000) :
    Calls Try.prog 18 #[.pointer (some ⟨g, 0, none⟩), .slice (some ⟨w.heap.size, 0, none⟩) 1 1] (w.alloc (.cells #[.bool y] 4)) (OutF w0 wr (w.alloc (.cells #[.bool y] 4)) g (flagStep s y) (c + 1)) := by
  obtain ⟨v, h1, h2, h3⟩ := h.out
  obtain ⟨e, L⟩ := s
  simp only at h1 h3
  have hlt := h1.lt
  have hq2 : Q wr (w.alloc (.cells #[.bool y] 4)) := hq.alloc _
  have hwr := hq.size
  refine (flags_ok w0.heap.size g e 1 (some ⟨w.heap.size, 0, none⟩) [y] L v (fun k => k = w.heap.size) _ (h1.q hq2) (SeesP.newAt w [.bool y] 4) (fun k hk => ⟨by subst hk; rw [alloc_size]; omega, fun hO => by have := hlt k hO; omega⟩) (by simp; omega) (by simp)).mono ?_
  rintro e' w' ⟨v', rfl, h4⟩
  refine ⟨rfl, OutN.of_st (s := (e, L)) (h1.q hq2) (h2.step hq2) h4 ?_, Fresh.of_only h4.only hlt, h4.only.size⟩
  have := flagSteps_len [y] (e, L)
  simp only [List.foldl_cons, List.foldl_nil, List.length_cons, List.length_nil] at this ⊢
  omega
theorem raw2 (h : Hid (OutN w0 wr g s c)) (hq0 : Q wr w) (hq : Q w wb) (n cp : Nat) (l : List Nat) (hl : l.length = n) (hs : SeesP wb (fun k => k = w.heap.size) (some ⟨w.heap.size, 0, none⟩) (l.map B8)) (hsz : wb.heap.size = w.heap.size + 1) (hb : ∀ x ∈ l, x ≤ 255) (hn : n ≤ 262000) (hc : c ≤ 100000) :
    Calls Try.prog 19 #[.pointer (some ⟨g, 0, none⟩), .slice (some ⟨wb.heap.size, 0, none⟩) 1 1] (wb.alloc (.cells #[.slice (some ⟨w.heap.size, 0, none⟩) n cp] 23)) (OutF w0 wr (wb.alloc (.cells #[.slice (some ⟨w.heap.size, 0, none⟩) n cp] 23)) g (rawStep s l) (c + 2)) := by
  subst hl
  obtain ⟨v, h1, h2, h3⟩ := h.out
  obtain ⟨e, L⟩ := s
  simp only at h1 h3
  have hlt := h1.lt
  have hwr := hq0.size
  have hq2 : Q wr (wb.alloc (.cells #[.slice (some ⟨w.heap.size, 0, none⟩) l.length cp] 23)) := (hq0.trans' hq).alloc _
  refine (raws_ok w0.heap.size g e 1 (some ⟨wb.heap.size, 0, none⟩) [(.slice (some ⟨w.heap.size, 0, none⟩) l.length cp, l)] L v (fun k => w.heap.size ≤ k ∧ k < w.heap.size + 2) _ (h1.q hq2) ?_ ?_ ?_ (by simp; omega) (by simp)).mono ?_
  · exact (SeesP.newAt wb [.slice (some ⟨w.heap.size, 0, none⟩) l.length cp] 23).more (fun b hb => by subst hb; omega)
  · intro z hz
    rw [List.mem_singleton] at hz
    subst hz
    exact ⟨some ⟨w.heap.size, 0, none⟩, cp, rfl, (hs.alloc (fun b hb => by subst hb; omega) _).more (fun b hb => by subst hb; omega), hb, fun h => by cases h⟩
  · rintro k ⟨hk1, hk2⟩
    refine ⟨by rw [alloc_size]; omega, fun hO => ?_⟩
    have := hlt k hO
    omega
  · rintro e' w' ⟨v', rfl, h4⟩
    refine ⟨rfl, OutN.of_st (s := (e, L)) (h1.q hq2) (h2.step hq2) h4 ?_, Fresh.of_only h4.only hlt, h4.only.size⟩
    show (rawStep (e, L) l).2.length ≤ _
    unfold rawStep
    split
    · rw [List.length_append]; simp only; omega
    · simp only; omega
end
end Go.Proofs.Ytbbpdcnkiljjgaa
