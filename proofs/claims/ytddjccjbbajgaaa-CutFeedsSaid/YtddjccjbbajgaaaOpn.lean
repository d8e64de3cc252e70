/- What an argument's part is, out of how it reads as data: a number, a row of numbers. -/
import Derived.Test.YtddjccjbbajgaaaMem
import Derived.Lib.SmallJoins
namespace Go.Proofs.Ytddjccjbbajgaaa
set_option linter.unusedVariables false
set_option linter.unusedSimpArgs false
open Go.ChangeShapes Go.WideShapes Go.RowKit Go.Deep

section
variable {H : Type} {enc : TypeId × Value → H} {P : Program} {w : World} {held : Bool} {fuel : Nat} {v : Value} {x : DataW H × List MemPlace}
theorem int_of_trod {t : TypeId} {k : IntKind} {base : Nat} {spare : Nat → Bool} (ht : P.underlying t = some (.int k)) (h : DataW.trod enc P w base spare held fuel t [v] = some x) : ∃ z, v = .int k z ∧ (Lit.int k z).wf = true := by
  obtain ⟨n, hcs, _, hw⟩ := DataW.trod_int ht h
  injection hcs with h1
  exact ⟨n, h1, hw⟩
theorem row_of_trod {t e : TypeId} {k : IntKind} (ht : P.underlying t = some (.slice e)) (he : P.underlying e = some (.int k)) (hc : P.cellsOf e = 1) (h : DataW.trod enc P w 0 (fun _ => true) held fuel t [v] = some x) :
    ∃ a n c zs, v = .slice a n c ∧ IsRow k w a n c zs := by
  rcases open_ints ht he hc h with ⟨hcs, _⟩ | ⟨a, l, c, zs, hcs, _, hl, hm, hz, _, hcell, hwz⟩
  · injection hcs with h1
    exact ⟨none, 0, 0, [], h1, .inl ⟨rfl, rfl, rfl, rfl⟩⟩
  · injection hcs with h1
    exact ⟨some a, l, c, zs, h1, .inr ⟨_, rfl, hl, hm, by simpa using hz, hcell, hwz⟩⟩
theorem array7 {α : Type} {cs : Array α} (h : cs.size = 7) : ∃ c0 c1 c2 c3 c4 c5 c6, cs = #[c0, c1, c2, c3, c4, c5, c6] := by
  obtain ⟨l⟩ := cs
  match l, h with
  | [c0, c1, c2, c3, c4, c5, c6], _ => exact ⟨c0, c1, c2, c3, c4, c5, c6, rfl⟩
/-- A struct of a struct of four one-cell fields, and of three one-cell fields. -/
theorem open_4_111 {r : Reach} {b0 : Nat} {t : TypeId} {base : Nat} {spare : Nat → Bool} {f0 f1 f2 f3 g0 g1 g2 g3 : Field} {v : Value} {d : DataW H} {p : List MemPlace} (hs : P.underlying t = some (.struct #[f0, f1, f2, f3])) (hg : P.underlying f0.type = some (.struct #[g0, g1, g2, g3]))
    (o : f0.offset = 0 ∧ P.cellsOf f0.type = 4 ∧ f1.offset = 4 ∧ P.cellsOf f1.type = 1 ∧ f2.offset = 5 ∧ P.cellsOf f2.type = 1 ∧ f3.offset = 6 ∧ P.cellsOf f3.type = 1)
    (og : g0.offset = 0 ∧ P.cellsOf g0.type = 1 ∧ g1.offset = 1 ∧ P.cellsOf g1.type = 1 ∧ g2.offset = 2 ∧ P.cellsOf g2.type = 1 ∧ g3.offset = 3 ∧ P.cellsOf g3.type = 1) (hC : P.cellsOf t = 7)
    (hv : Value.okWide P w r b0 t v) (h : DataW.Trod enc P w base spare held t v d p) :
    ∃ (v0 v1 v2 v3 v4 v5 v6 : Value) (y0 y1 y2 y3 y4 y5 y6 : DataW H × List MemPlace) (n m : Nat), v = .agg #[v0, v1, v2, v3, v4, v5, v6] ∧
      DataW.trod enc P w base spare held n g0.type [v0] = some y0 ∧ DataW.trod enc P w base spare held n g1.type [v1] = some y1 ∧ DataW.trod enc P w base spare held n g2.type [v2] = some y2 ∧ DataW.trod enc P w base spare held n g3.type [v3] = some y3 ∧
      DataW.trod enc P w base spare held m f1.type [v4] = some y4 ∧ DataW.trod enc P w base spare held m f2.type [v5] = some y5 ∧ DataW.trod enc P w base spare held m f3.type [v6] = some y6 := by
  obtain ⟨cs, rfl, hsz⟩ := okWide_struct hs hv
  obtain ⟨c0, c1, c2, c3, c4, c5, c6, rfl⟩ := array7 (hsz.trans hC)
  obtain ⟨fuel, hf⟩ := h
  obtain ⟨o1, o2, o3, o4, o5, o6, o7, o8⟩ := o
  obtain ⟨q1, q2, q3, q4, q5, q6, q7, q8⟩ := og
  obtain ⟨z0, y4, y5, y6, n, hx, _, h0, h1, h2, h3⟩ := Joins.trod_struct4 hs hf
  rw [o1, o2] at h0
  rw [o3, o4] at h1
  rw [o5, o6] at h2
  rw [o7, o8] at h3
  obtain ⟨y0, y1, y2, y3, m, hx', _, k0, k1, k2, k3⟩ := Joins.trod_struct4 hg h0
  rw [q1, q2] at k0
  rw [q3, q4] at k1
  rw [q5, q6] at k2
  rw [q7, q8] at k3
  exact ⟨c0, c1, c2, c3, c4, c5, c6, y0, y1, y2, y3, y4, y5, y6, m, n, rfl, by simpa [Value.cells] using k0, by simpa [Value.cells] using k1, by simpa [Value.cells] using k2, by simpa [Value.cells] using k3, by simpa [Value.cells] using h1, by simpa [Value.cells] using h2, by simpa [Value.cells] using h3⟩
end
end Go.Proofs.Ytddjccjbbajgaaa
