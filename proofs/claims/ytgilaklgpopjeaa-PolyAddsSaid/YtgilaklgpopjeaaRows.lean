/-
  No cell of these rows narrows 'for every input' (looked for: loops, veiled, ifaces, maps, wideKeys, modest, calm, conditions, laid).
  DERIVED. THE GIVEN ROWS OF THIS SEAT. 8 by the template 'for every input the law returns true; each argument reads behind the call as it read before'; 0 by the template 'total and deterministic' (their statements: YtgilaklgpopjeaaTotals.lean).
  GIVEN WITH THE SEED: the statements are not yours to turn. If you find one false, say at which input.
  Laid BY PROGRAM, IN A SANDBOX (cutbox-rows.mjs): the forced cells as the released guide's own fill.sh prints them over the translation be175b60f921b134… (all of the seat's roots in one cut). By AI agents, Wed Nov 11 2026. No macro, syntax, notation, axiom, sorry.
-/
import Derived.Test.YtgilaklgpopjeaaChecked
import GoSem.Claim
import GoSem.ClaimJoined
import GoSem.ClaimMapViews
import Derived.JoinedTies
import Derived.KernelRfl
namespace Go.Proofs.Ytgilaklgpopjeaa
/- THE CELL 'sum', in the pinned program and in every row, IS THE sha256 OF THE DUMP (.gsa) THAT YtgilaklgpopjeaaProg.lean LOADS. Nothing in Lean hashes anything: it is a label: what it is worth is what the hold of that sum in a sandbox is worth. -/
noncomputable def Try.pinned : Pinned := { name := "ytgilaklgpopjeaa", sum := "be175b60f921b13491dc0792284ce9ca20cd924d8656b505288f8e90bc88cf2d", checked := Try.checked }
namespace Rows
def none {H : Type} : Left H := { results := [], args := [] }

/-- 'hypogeumlaw03.PolyAdds': WHATEVER THE INPUT: true; the input reads as it did. -/
def polyAddsSpec : ChangeSpec := { name := "polyAdds", fn := fun _ => fun
  | [d] => { results := [.lit (.bool true)], args := [d] }
  | _ => none }
def polyAddsRow : OpenClaim := { program := "ytgilaklgpopjeaa", sum := "be175b60f921b13491dc0792284ce9ca20cd924d8656b505288f8e90bc88cf2d", func := "hypogeum/hypogeumlaw03.PolyAdds", spec := "polyAdds", apart := false }
def PolyAddsSaid : Prop := polyAddsRow.holds Try.pinned (OpenSpec.ofChange polyAddsSpec)

/-- ITS FALSE NEIGHBOUR: 'it returns false'. Refute it at one input. -/
def polyAddsWrong : ChangeSpec := { name := "polyAdds", fn := fun _ => fun
  | [d] => { results := [.lit (.bool false)], args := [d] }
  | _ => none }
def PolyAddsWrongFalsely : Prop := polyAddsRow.holds Try.pinned (OpenSpec.ofChange polyAddsWrong)

/-- 'hypogeumlaw03.PolyMuls': WHATEVER THE INPUT: true; the input reads as it did. -/
def polyMulsSpec : ChangeSpec := { name := "polyMuls", fn := fun _ => fun
  | [d1, d2] => { results := [.lit (.bool true)], args := [d1, d2] }
  | _ => none }
def polyMulsRow : OpenClaim := { program := "ytgilaklgpopjeaa", sum := "be175b60f921b13491dc0792284ce9ca20cd924d8656b505288f8e90bc88cf2d", func := "hypogeum/hypogeumlaw03.PolyMuls", spec := "polyMuls", apart := false }
def PolyMulsSaid : Prop := polyMulsRow.holds Try.pinned (OpenSpec.ofChange polyMulsSpec)

/-- ITS FALSE NEIGHBOUR: 'it returns false'. Refute it at one input. -/
def polyMulsWrong : ChangeSpec := { name := "polyMuls", fn := fun _ => fun
  | [d1, d2] => { results := [.lit (.bool false)], args := [d1, d2] }
  | _ => none }
def PolyMulsWrongFalsely : Prop := polyMulsRow.holds Try.pinned (OpenSpec.ofChange polyMulsWrong)

/-- 'hypogeumlaw03.PolyDivs': WHATEVER THE INPUT: true; the input reads as it did. -/
def polyDivsSpec : ChangeSpec := { name := "polyDivs", fn := fun _ => fun
  | [d1, d2] => { results := [.lit (.bool true)], args := [d1, d2] }
  | _ => none }
def polyDivsRow : OpenClaim := { program := "ytgilaklgpopjeaa", sum := "be175b60f921b13491dc0792284ce9ca20cd924d8656b505288f8e90bc88cf2d", func := "hypogeum/hypogeumlaw03.PolyDivs", spec := "polyDivs", apart := false }
def PolyDivsSaid : Prop := polyDivsRow.holds Try.pinned (OpenSpec.ofChange polyDivsSpec)

/-- ITS FALSE NEIGHBOUR: 'it returns false'. Refute it at one input. -/
def polyDivsWrong : ChangeSpec := { name := "polyDivs", fn := fun _ => fun
  | [d1, d2] => { results := [.lit (.bool false)], args := [d1, d2] }
  | _ => none }
def PolyDivsWrongFalsely : Prop := polyDivsRow.holds Try.pinned (OpenSpec.ofChange polyDivsWrong)

/-- 'hypogeumlaw03.PolyMods': WHATEVER THE INPUT: true; the input reads as it did. -/
def polyModsSpec : ChangeSpec := { name := "polyMods", fn := fun _ => fun
  | [d1, d2, d3] => { results := [.lit (.bool true)], args := [d1, d2, d3] }
  | _ => none }
def polyModsRow : OpenClaim := { program := "ytgilaklgpopjeaa", sum := "be175b60f921b13491dc0792284ce9ca20cd924d8656b505288f8e90bc88cf2d", func := "hypogeum/hypogeumlaw03.PolyMods", spec := "polyMods", apart := false }
def PolyModsSaid : Prop := polyModsRow.holds Try.pinned (OpenSpec.ofChange polyModsSpec)

/-- ITS FALSE NEIGHBOUR: 'it returns false'. Refute it at one input. -/
def polyModsWrong : ChangeSpec := { name := "polyMods", fn := fun _ => fun
  | [d1, d2, d3] => { results := [.lit (.bool false)], args := [d1, d2, d3] }
  | _ => none }
def PolyModsWrongFalsely : Prop := polyModsRow.holds Try.pinned (OpenSpec.ofChange polyModsWrong)

/-- 'hypogeumlaw03.PolyGcds': WHATEVER THE INPUT: true; the input reads as it did. -/
def polyGcdsSpec : ChangeSpec := { name := "polyGcds", fn := fun _ => fun
  | [d1, d2, d3] => { results := [.lit (.bool true)], args := [d1, d2, d3] }
  | _ => none }
def polyGcdsRow : OpenClaim := { program := "ytgilaklgpopjeaa", sum := "be175b60f921b13491dc0792284ce9ca20cd924d8656b505288f8e90bc88cf2d", func := "hypogeum/hypogeumlaw03.PolyGcds", spec := "polyGcds", apart := false }
def PolyGcdsSaid : Prop := polyGcdsRow.holds Try.pinned (OpenSpec.ofChange polyGcdsSpec)

/-- ITS FALSE NEIGHBOUR: 'it returns false'. Refute it at one input. -/
def polyGcdsWrong : ChangeSpec := { name := "polyGcds", fn := fun _ => fun
  | [d1, d2, d3] => { results := [.lit (.bool false)], args := [d1, d2, d3] }
  | _ => none }
def PolyGcdsWrongFalsely : Prop := polyGcdsRow.holds Try.pinned (OpenSpec.ofChange polyGcdsWrong)

/-- 'hypogeumlaw03.PolyPrimes': WHATEVER THE INPUT: true; the input reads as it did. -/
def polyPrimesSpec : ChangeSpec := { name := "polyPrimes", fn := fun _ => fun
  | [d1, d2, d3] => { results := [.lit (.bool true)], args := [d1, d2, d3] }
  | _ => none }
def polyPrimesRow : OpenClaim := { program := "ytgilaklgpopjeaa", sum := "be175b60f921b13491dc0792284ce9ca20cd924d8656b505288f8e90bc88cf2d", func := "hypogeum/hypogeumlaw03.PolyPrimes", spec := "polyPrimes", apart := false }
def PolyPrimesSaid : Prop := polyPrimesRow.holds Try.pinned (OpenSpec.ofChange polyPrimesSpec)

/-- ITS FALSE NEIGHBOUR: 'it returns false'. Refute it at one input. -/
def polyPrimesWrong : ChangeSpec := { name := "polyPrimes", fn := fun _ => fun
  | [d1, d2, d3] => { results := [.lit (.bool false)], args := [d1, d2, d3] }
  | _ => none }
def PolyPrimesWrongFalsely : Prop := polyPrimesRow.holds Try.pinned (OpenSpec.ofChange polyPrimesWrong)

/-- 'hypogeumlaw03.PolySpreads': WHATEVER THE INPUT: true; the input reads as it did. -/
def polySpreadsSpec : ChangeSpec := { name := "polySpreads", fn := fun _ => fun
  | [d1, d2, d3] => { results := [.lit (.bool true)], args := [d1, d2, d3] }
  | _ => none }
def polySpreadsRow : OpenClaim := { program := "ytgilaklgpopjeaa", sum := "be175b60f921b13491dc0792284ce9ca20cd924d8656b505288f8e90bc88cf2d", func := "hypogeum/hypogeumlaw03.PolySpreads", spec := "polySpreads", apart := false }
def PolySpreadsSaid : Prop := polySpreadsRow.holds Try.pinned (OpenSpec.ofChange polySpreadsSpec)

/-- ITS FALSE NEIGHBOUR: 'it returns false'. Refute it at one input. -/
def polySpreadsWrong : ChangeSpec := { name := "polySpreads", fn := fun _ => fun
  | [d1, d2, d3] => { results := [.lit (.bool false)], args := [d1, d2, d3] }
  | _ => none }
def PolySpreadsWrongFalsely : Prop := polySpreadsRow.holds Try.pinned (OpenSpec.ofChange polySpreadsWrong)

/-- 'hypogeumlaw03.PolySquares': WHATEVER THE INPUT: true; the input reads as it did. -/
def polySquaresSpec : ChangeSpec := { name := "polySquares", fn := fun _ => fun
  | [d1, d2] => { results := [.lit (.bool true)], args := [d1, d2] }
  | _ => none }
def polySquaresRow : OpenClaim := { program := "ytgilaklgpopjeaa", sum := "be175b60f921b13491dc0792284ce9ca20cd924d8656b505288f8e90bc88cf2d", func := "hypogeum/hypogeumlaw03.PolySquares", spec := "polySquares", apart := false }
def PolySquaresSaid : Prop := polySquaresRow.holds Try.pinned (OpenSpec.ofChange polySquaresSpec)

/-- ITS FALSE NEIGHBOUR: 'it returns false'. Refute it at one input. -/
def polySquaresWrong : ChangeSpec := { name := "polySquares", fn := fun _ => fun
  | [d1, d2] => { results := [.lit (.bool false)], args := [d1, d2] }
  | _ => none }
def PolySquaresWrongFalsely : Prop := polySquaresRow.holds Try.pinned (OpenSpec.ofChange polySquaresWrong)

/- THE SECOND FORM. 'bulk': how many values and letters a reading holds, each counted each time it is reached (what is shared counts as often as it is met; a slice's spare places count too). A statement '..UptoSaid' is the law's where the arguments, and the package variables that the reading takes, are together of bulk at most 1048576: NARROWER than '..Said'. Prove '..Said' where nothing that the law and all that it calls make is longer than what came in: it says more and counts as full. Else prove '..UptoSaid'. A law counts once. -/
mutual
def uptoBulk {H : Type} : DataW H → Nat
  | .lit (.string bytes) => bytes.length + 1
  | .lit _ => 1
  | .nil => 1
  | .ptr d => uptoBulk d + 1
  | .slice elems spare => uptoBulkAll elems + uptoBulkAll spare + 1
  | .agg parts => uptoBulkAll parts + 1
  | .iface _ d => uptoBulk d + 1
  | .map entries => uptoBulkEntries entries + 1
  | .held _ => 1
def uptoBulkAll {H : Type} : List (DataW H) → Nat
  | [] => 0
  | d :: r => uptoBulk d + uptoBulkAll r
def uptoBulkEntries {H : Type} : List (Lit × DataW H) → Nat
  | [] => 0
  | x :: r => uptoBulkEntry x + uptoBulkEntries r
def uptoBulkEntry {H : Type} : Lit × DataW H → Nat
  | (.string bytes, d) => bytes.length + uptoBulk d + 1
  | (_, d) => uptoBulk d + 1
 end
def uptoSmall : (H : Type) → List (DataW H) → Bool := fun _ ds => decide (uptoBulkAll ds ≤ 1048576)
def OpenSpec.upto (s : _root_.Go.ChangeSpec) : _root_.Go.OpenSpec := { _root_.Go.OpenSpec.ofChange s with cond := some uptoSmall }

/-- 'hypogeumlaw03.PolyAdds', WHERE WHAT IT READS IS OF BULK AT MOST 1048576: true; the input reads as it did. -/
def polyAddsUptoRow : OpenClaim := { program := "ytgilaklgpopjeaa", sum := "be175b60f921b13491dc0792284ce9ca20cd924d8656b505288f8e90bc88cf2d", func := "hypogeum/hypogeumlaw03.PolyAdds", spec := "polyAdds", apart := false, narrowed := true }
def PolyAddsUptoSaid : Prop := polyAddsUptoRow.holds Try.pinned (OpenSpec.upto polyAddsSpec)

/-- 'hypogeumlaw03.PolyMuls', WHERE WHAT IT READS IS OF BULK AT MOST 1048576: true; the input reads as it did. -/
def polyMulsUptoRow : OpenClaim := { program := "ytgilaklgpopjeaa", sum := "be175b60f921b13491dc0792284ce9ca20cd924d8656b505288f8e90bc88cf2d", func := "hypogeum/hypogeumlaw03.PolyMuls", spec := "polyMuls", apart := false, narrowed := true }
def PolyMulsUptoSaid : Prop := polyMulsUptoRow.holds Try.pinned (OpenSpec.upto polyMulsSpec)

/-- 'hypogeumlaw03.PolyDivs', WHERE WHAT IT READS IS OF BULK AT MOST 1048576: true; the input reads as it did. -/
def polyDivsUptoRow : OpenClaim := { program := "ytgilaklgpopjeaa", sum := "be175b60f921b13491dc0792284ce9ca20cd924d8656b505288f8e90bc88cf2d", func := "hypogeum/hypogeumlaw03.PolyDivs", spec := "polyDivs", apart := false, narrowed := true }
def PolyDivsUptoSaid : Prop := polyDivsUptoRow.holds Try.pinned (OpenSpec.upto polyDivsSpec)

/-- 'hypogeumlaw03.PolyMods', WHERE WHAT IT READS IS OF BULK AT MOST 1048576: true; the input reads as it did. -/
def polyModsUptoRow : OpenClaim := { program := "ytgilaklgpopjeaa", sum := "be175b60f921b13491dc0792284ce9ca20cd924d8656b505288f8e90bc88cf2d", func := "hypogeum/hypogeumlaw03.PolyMods", spec := "polyMods", apart := false, narrowed := true }
def PolyModsUptoSaid : Prop := polyModsUptoRow.holds Try.pinned (OpenSpec.upto polyModsSpec)

/-- 'hypogeumlaw03.PolyGcds', WHERE WHAT IT READS IS OF BULK AT MOST 1048576: true; the input reads as it did. -/
def polyGcdsUptoRow : OpenClaim := { program := "ytgilaklgpopjeaa", sum := "be175b60f921b13491dc0792284ce9ca20cd924d8656b505288f8e90bc88cf2d", func := "hypogeum/hypogeumlaw03.PolyGcds", spec := "polyGcds", apart := false, narrowed := true }
def PolyGcdsUptoSaid : Prop := polyGcdsUptoRow.holds Try.pinned (OpenSpec.upto polyGcdsSpec)

/-- 'hypogeumlaw03.PolyPrimes', WHERE WHAT IT READS IS OF BULK AT MOST 1048576: true; the input reads as it did. -/
def polyPrimesUptoRow : OpenClaim := { program := "ytgilaklgpopjeaa", sum := "be175b60f921b13491dc0792284ce9ca20cd924d8656b505288f8e90bc88cf2d", func := "hypogeum/hypogeumlaw03.PolyPrimes", spec := "polyPrimes", apart := false, narrowed := true }
def PolyPrimesUptoSaid : Prop := polyPrimesUptoRow.holds Try.pinned (OpenSpec.upto polyPrimesSpec)

/-- 'hypogeumlaw03.PolySpreads', WHERE WHAT IT READS IS OF BULK AT MOST 1048576: true; the input reads as it did. -/
def polySpreadsUptoRow : OpenClaim := { program := "ytgilaklgpopjeaa", sum := "be175b60f921b13491dc0792284ce9ca20cd924d8656b505288f8e90bc88cf2d", func := "hypogeum/hypogeumlaw03.PolySpreads", spec := "polySpreads", apart := false, narrowed := true }
def PolySpreadsUptoSaid : Prop := polySpreadsUptoRow.holds Try.pinned (OpenSpec.upto polySpreadsSpec)

/-- 'hypogeumlaw03.PolySquares', WHERE WHAT IT READS IS OF BULK AT MOST 1048576: true; the input reads as it did. -/
def polySquaresUptoRow : OpenClaim := { program := "ytgilaklgpopjeaa", sum := "be175b60f921b13491dc0792284ce9ca20cd924d8656b505288f8e90bc88cf2d", func := "hypogeum/hypogeumlaw03.PolySquares", spec := "polySquares", apart := false, narrowed := true }
def PolySquaresUptoSaid : Prop := polySquaresUptoRow.holds Try.pinned (OpenSpec.upto polySquaresSpec)

end Rows
end Go.Proofs.Ytgilaklgpopjeaa
