/- Rows of strings and of bools that came in. -/
import Derived.Test.YtbbpdcnkiljjgaaMem
import Derived.SliceStrings
import Derived.Deep.Grids
namespace Go.Proofs.Ytbbpdcnkiljjgaa
set_option linter.unusedVariables false
set_option linter.unusedSimpArgs false
open Go.RowKit

/-- A row that came in: nil, or cap cells of which the first len are its elements. -/
def RowOf {α : Type} (enc : α → Value) (w : World) (a : Option Addr) (len cap : Nat) (zs : List α) : Prop :=
  (a = none ∧ len = 0 ∧ cap = 0 ∧ zs = []) ∨
  ∃ x, a = some x ∧ len ≤ cap ∧ cap ≤ maxLen ∧ zs.length = cap ∧ ∀ i (h : i < zs.length), w.cell? (x.add i) = some (enc zs[i])
section
variable {α : Type} {enc : α → Value} {w : World} {a : Option Addr} {len cap : Nat} {zs : List α}
theorem RowOf.len_le (h : RowOf enc w a len cap zs) : len ≤ cap ∧ zs.length = cap ∧ cap ≤ maxLen := by
  rcases h with ⟨_, rfl, rfl, rfl⟩ | ⟨x, _, h1, h2, h3, _⟩
  · exact ⟨Nat.le_refl _, rfl, Nat.zero_le _⟩
  · exact ⟨h1, h3, h2⟩
theorem RowOf.sees (h : RowOf enc w a len cap zs) : Sees w w.heap.size a (zs.map enc) := by
  rcases h with ⟨rfl, rfl, rfl, rfl⟩ | ⟨x, rfl, h1, h2, h3, h4⟩
  · exact SeesP.nil _ _ _
  · intro hn
    have hlen : 0 < zs.length := by
      cases zs with
      | nil => exact absurd rfl hn
      | cons _ _ => simp
    have h0 := h4 0 hlen
    have hx : x = ⟨x.block, x.off, none⟩ := by
      have := add_of (i := 0) h0
      simpa [Addr.add] using this
    refine ⟨x.block, x.off, by rw [← hx], ?_, fun j u hj => ?_⟩
    · exact World.block_lt_of_cell? w _ h0
    · rw [← add_of (i := j) h0]
      rw [List.getElem?_map, Option.map_eq_some_iff] at hj
      obtain ⟨z, hz, rfl⟩ := hj
      obtain ⟨hlt, hz'⟩ := List.getElem?_eq_some_iff.1 hz
      rw [h4 j hlt, hz']
end
section
variable {H : Type} {enc : TypeId × Value → H} {P : Program} {w : World} {base : Nat} {held : Bool}
theorem rowOf_strings {t e : TypeId} {a : Option Addr} {n c : Nat} {d : DataW H} {ps : List MemPlace} (ht : P.underlying t = some (.slice e)) (he : P.underlying e = some .string) (hc : P.cellsOf e = 1)
    (h : DataW.Trod enc P w base (fun _ => true) held t (.slice a n c) d ps) : ∃ zs : List ByteArray, RowOf .string w a n c zs ∧ ∀ s ∈ zs, s.size ≤ maxLen := by
  obtain ⟨fuel, hf⟩ := h
  rcases Go.ChangeShapes.open_strings ht he hc hf with ⟨hcs, _⟩ | ⟨x, l, cp, ss, hcs, _, hl, hm, hz, _, hcell, hw⟩
  · simp [Value.cells] at hcs
    obtain ⟨rfl, rfl, rfl⟩ := hcs
    exact ⟨[], .inl ⟨rfl, rfl, rfl, rfl⟩, by simp⟩
  · simp [Value.cells] at hcs
    obtain ⟨rfl, rfl, rfl⟩ := hcs
    refine ⟨ss, .inr ⟨_, rfl, hl, hm, by simpa using hz, fun i hi => ?_⟩, hw⟩
    rw [hcell i hi, List.getD_eq_getElem?_getD, List.getElem?_eq_getElem hi]; rfl
theorem rowOf_bools {t e : TypeId} {a : Option Addr} {n c : Nat} {d : DataW H} {ps : List MemPlace} (ht : P.underlying t = some (.slice e)) (he : P.underlying e = some .bool) (hc : P.cellsOf e = 1)
    (h : DataW.Trod enc P w base (fun _ => true) held t (.slice a n c) d ps) : ∃ zs : List Bool, RowOf .bool w a n c zs := by
  obtain ⟨fuel, hf⟩ := h
  rcases Go.Deep.open_bools ht he hc hf with ⟨hcs, _⟩ | ⟨x, l, cp, B, hcs, _, hl, hm, _, hcell⟩
  · simp [Value.cells] at hcs
    obtain ⟨rfl, rfl, rfl⟩ := hcs
    exact ⟨[], .inl ⟨rfl, rfl, rfl, rfl⟩⟩
  · simp [Value.cells] at hcs
    obtain ⟨rfl, rfl, rfl⟩ := hcs
    refine ⟨(List.range c).map B, .inr ⟨_, rfl, hl, hm, by simp, fun i hi => ?_⟩⟩
    simp only [List.length_map, List.length_range] at hi
    rw [hcell i hi]; simp
end
end Go.Proofs.Ytbbpdcnkiljjgaa
