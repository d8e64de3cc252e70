/- What an argument's part is, out of how it reads as data: a number, a row of numbers. -/
import Derived.Test.YtddjccjbbajgaaaMem
import Derived.Lib.SmallJoins
namespace Go.Proofs.Ytddjccjbbajgaaa
set_option linter.unusedVariables false
set_option linter.unusedSimpArgs false
open Go.ChangeShapes Go.WideShapes Go.RowKit Go.Deep

section
variable {H : Type} {enc : TypeId × Value → H} {P : Program} {w : World} {held : Bool} {fuel : Nat} {v : Value} {x : DataW H × List MemPlace}
theorem int_of_trod {t : TypeId} {k : IntKind} {base : Nat} {spare : Nat → Bool} (ht : P.underlying t = some (.int k)) (h : DataW.trod enc P w base spare held fuel t [v] = some x) : ∃ z, v = .int k z ∧ (Lit.int k z).wf = true := by
  obtain ⟨n, hcs, _, hw⟩ := DataW.trod_int ht h
  injection hcs with h1
  exact ⟨n, h1, hw⟩
theorem row_of_trod {t e : TypeId} {k : IntKind} (ht : P.underlying t = some (.slice e)) (he : P.underlying e = some (.int k)) (hc : P.cellsOf e = 1) (h : DataW.trod enc P w 0 (fun _ => true) held fuel t [v] = some x) :
    ∃ a n c zs, v = .slice a n c ∧ IsRow k w a n c zs := by
  rcases open_ints ht he hc h with ⟨hcs, _⟩ | ⟨a, l, c, zs, hcs, _, hl, hm, hz, _, hcell, hwz⟩
  · injection hcs with h1
    exact ⟨none, 0, 0, [], h1, .inl ⟨rfl, rfl, rfl, rfl⟩⟩
  · injection hcs with h1
    exact ⟨some a, l, c, zs, h1, .inr ⟨_, rfl, hl, hm, by simpa using hz, hcell, hwz⟩⟩
end
end Go.Proofs.Ytddjccjbbajgaaa
