/-
  No cell of these rows narrows 'for every input' (looked for: loops, veiled, ifaces, maps, wideKeys, modest, calm, conditions, laid).
  DERIVED. THE GIVEN ROWS OF THIS SEAT. 5 by the template 'for every input the law returns true; each argument reads behind the call as it read before'; 0 by the template 'total and deterministic' (their statements: YtbbpdcnkiljjgaaTotals.lean).
  GIVEN WITH THE SEED: the statements are not yours to turn. If you find one false, say at which input.
  Laid BY PROGRAM, IN A SANDBOX (cutbox-rows.mjs): the forced cells as the released guide's own fill.sh prints them over the translation 34c4c8904830834e… (all of the seat's roots in one cut). By AI agents, Wed Nov 11 2026. No macro, syntax, notation, axiom, sorry.
-/
import Derived.Test.YtbbpdcnkiljjgaaChecked
import GoSem.Claim
import GoSem.ClaimJoined
import GoSem.ClaimMapViews
import Derived.JoinedTies
import Derived.KernelRfl
namespace Go.Proofs.Ytbbpdcnkiljjgaa
/- THE CELL 'sum', in the pinned program and in every row, IS THE sha256 OF THE DUMP (.gsa) THAT YtbbpdcnkiljjgaaProg.lean LOADS. Nothing in Lean hashes anything: it is a label: what it is worth is what the hold of that sum in a sandbox is worth. -/
noncomputable def Try.pinned : Pinned := { name := "ytbbpdcnkiljjgaa", sum := "34c4c8904830834e2919e704f57d5be95ba9d086522f3986cb3e1e2f5c485a1e", checked := Try.checked }
namespace Rows
def none {H : Type} : Left H := { results := [], args := [] }

/-- 'hypogeumlaw06.GlyphWrites': WHATEVER THE INPUT: true; the input reads as it did. -/
def glyphWritesSpec : ChangeSpec := { name := "glyphWrites", fn := fun _ => fun
  | [d1, d2] => { results := [.lit (.bool true)], args := [d1, d2] }
  | _ => none }
def glyphWritesRow : OpenClaim := { program := "ytbbpdcnkiljjgaa", sum := "34c4c8904830834e2919e704f57d5be95ba9d086522f3986cb3e1e2f5c485a1e", func := "hypogeum/hypogeumlaw06.GlyphWrites", spec := "glyphWrites", apart := false }
def GlyphWritesSaid : Prop := glyphWritesRow.holds Try.pinned (OpenSpec.ofChange glyphWritesSpec)

/-- ITS FALSE NEIGHBOUR: 'it returns false'. Refute it at one input. -/
def glyphWritesWrong : ChangeSpec := { name := "glyphWrites", fn := fun _ => fun
  | [d1, d2] => { results := [.lit (.bool false)], args := [d1, d2] }
  | _ => none }
def GlyphWritesWrongFalsely : Prop := glyphWritesRow.holds Try.pinned (OpenSpec.ofChange glyphWritesWrong)

/-- 'hypogeumlaw06.GlyphRows': WHATEVER THE INPUT: true; the input reads as it did. -/
def glyphRowsSpec : ChangeSpec := { name := "glyphRows", fn := fun _ => fun
  | [d1, d2, d3] => { results := [.lit (.bool true)], args := [d1, d2, d3] }
  | _ => none }
def glyphRowsRow : OpenClaim := { program := "ytbbpdcnkiljjgaa", sum := "34c4c8904830834e2919e704f57d5be95ba9d086522f3986cb3e1e2f5c485a1e", func := "hypogeum/hypogeumlaw06.GlyphRows", spec := "glyphRows", apart := false }
def GlyphRowsSaid : Prop := glyphRowsRow.holds Try.pinned (OpenSpec.ofChange glyphRowsSpec)

/-- ITS FALSE NEIGHBOUR: 'it returns false'. Refute it at one input. -/
def glyphRowsWrong : ChangeSpec := { name := "glyphRows", fn := fun _ => fun
  | [d1, d2, d3] => { results := [.lit (.bool false)], args := [d1, d2, d3] }
  | _ => none }
def GlyphRowsWrongFalsely : Prop := glyphRowsRow.holds Try.pinned (OpenSpec.ofChange glyphRowsWrong)

/-- 'hypogeumlaw06.GlyphLess': WHATEVER THE INPUT: true; the input reads as it did. -/
def glyphLessSpec : ChangeSpec := { name := "glyphLess", fn := fun _ => fun
  | [d1, d2, d3] => { results := [.lit (.bool true)], args := [d1, d2, d3] }
  | _ => none }
def glyphLessRow : OpenClaim := { program := "ytbbpdcnkiljjgaa", sum := "34c4c8904830834e2919e704f57d5be95ba9d086522f3986cb3e1e2f5c485a1e", func := "hypogeum/hypogeumlaw06.GlyphLess", spec := "glyphLess", apart := false }
def GlyphLessSaid : Prop := glyphLessRow.holds Try.pinned (OpenSpec.ofChange glyphLessSpec)

/-- ITS FALSE NEIGHBOUR: 'it returns false'. Refute it at one input. -/
def glyphLessWrong : ChangeSpec := { name := "glyphLess", fn := fun _ => fun
  | [d1, d2, d3] => { results := [.lit (.bool false)], args := [d1, d2, d3] }
  | _ => none }
def GlyphLessWrongFalsely : Prop := glyphLessRow.holds Try.pinned (OpenSpec.ofChange glyphLessWrong)

/-- 'hypogeumlaw06.GlyphOnce': WHATEVER THE INPUT: true; the input reads as it did. -/
def glyphOnceSpec : ChangeSpec := { name := "glyphOnce", fn := fun _ => fun
  | [d] => { results := [.lit (.bool true)], args := [d] }
  | _ => none }
def glyphOnceRow : OpenClaim := { program := "ytbbpdcnkiljjgaa", sum := "34c4c8904830834e2919e704f57d5be95ba9d086522f3986cb3e1e2f5c485a1e", func := "hypogeum/hypogeumlaw06.GlyphOnce", spec := "glyphOnce", apart := false }
def GlyphOnceSaid : Prop := glyphOnceRow.holds Try.pinned (OpenSpec.ofChange glyphOnceSpec)

/-- ITS FALSE NEIGHBOUR: 'it returns false'. Refute it at one input. -/
def glyphOnceWrong : ChangeSpec := { name := "glyphOnce", fn := fun _ => fun
  | [d] => { results := [.lit (.bool false)], args := [d] }
  | _ => none }
def GlyphOnceWrongFalsely : Prop := glyphOnceRow.holds Try.pinned (OpenSpec.ofChange glyphOnceWrong)

/-- 'hypogeumlaw06.GlyphBack': WHATEVER THE INPUT: true; the input reads as it did. -/
def glyphBackSpec : ChangeSpec := { name := "glyphBack", fn := fun _ => fun
  | [d1, d2, d3] => { results := [.lit (.bool true)], args := [d1, d2, d3] }
  | _ => none }
def glyphBackRow : OpenClaim := { program := "ytbbpdcnkiljjgaa", sum := "34c4c8904830834e2919e704f57d5be95ba9d086522f3986cb3e1e2f5c485a1e", func := "hypogeum/hypogeumlaw06.GlyphBack", spec := "glyphBack", apart := false }
def GlyphBackSaid : Prop := glyphBackRow.holds Try.pinned (OpenSpec.ofChange glyphBackSpec)

/-- ITS FALSE NEIGHBOUR: 'it returns false'. Refute it at one input. -/
def glyphBackWrong : ChangeSpec := { name := "glyphBack", fn := fun _ => fun
  | [d1, d2, d3] => { results := [.lit (.bool false)], args := [d1, d2, d3] }
  | _ => none }
def GlyphBackWrongFalsely : Prop := glyphBackRow.holds Try.pinned (OpenSpec.ofChange glyphBackWrong)

/- THE SECOND FORM. 'bulk': how many values and letters a reading holds, each counted each time it is reached (what is shared counts as often as it is met; a slice's spare places count too). A statement '..UptoSaid' is the law's where the arguments, and the package variables that the reading takes, are together of bulk at most 1048576: NARROWER than '..Said'. Prove '..Said' where nothing that the law and all that it calls make is longer than what came in: it says more and counts as full. Else prove '..UptoSaid'. A law counts once. -/
mutual
def uptoBulk {H : Type} : DataW H → Nat
  | .lit (.string bytes) => bytes.length + 1
  | .lit _ => 1
  | .nil => 1
  | .ptr d => uptoBulk d + 1
  | .slice elems spare => uptoBulkAll elems + uptoBulkAll spare + 1
  | .agg parts => uptoBulkAll parts + 1
  | .iface _ d => uptoBulk d + 1
  | .map entries => uptoBulkEntries entries + 1
  | .held _ => 1
def uptoBulkAll {H : Type} : List (DataW H) → Nat
  | [] => 0
  | d :: r => uptoBulk d + uptoBulkAll r
def uptoBulkEntries {H : Type} : List (Lit × DataW H) → Nat
  | [] => 0
  | x :: r => uptoBulkEntry x + uptoBulkEntries r
def uptoBulkEntry {H : Type} : Lit × DataW H → Nat
  | (.string bytes, d) => bytes.length + uptoBulk d + 1
  | (_, d) => uptoBulk d + 1
 end
def uptoSmall : (H : Type) → List (DataW H) → Bool := fun _ ds => decide (uptoBulkAll ds ≤ 1048576)
def OpenSpec.upto (s : _root_.Go.ChangeSpec) : _root_.Go.OpenSpec := { _root_.Go.OpenSpec.ofChange s with cond := some uptoSmall }

/-- 'hypogeumlaw06.GlyphWrites', WHERE WHAT IT READS IS OF BULK AT MOST 1048576: true; the input reads as it did. -/
def glyphWritesUptoRow : OpenClaim := { program := "ytbbpdcnkiljjgaa", sum := "34c4c8904830834e2919e704f57d5be95ba9d086522f3986cb3e1e2f5c485a1e", func := "hypogeum/hypogeumlaw06.GlyphWrites", spec := "glyphWrites", apart := false, narrowed := true }
def GlyphWritesUptoSaid : Prop := glyphWritesUptoRow.holds Try.pinned (OpenSpec.upto glyphWritesSpec)

/-- 'hypogeumlaw06.GlyphRows', WHERE WHAT IT READS IS OF BULK AT MOST 1048576: true; the input reads as it did. -/
def glyphRowsUptoRow : OpenClaim := { program := "ytbbpdcnkiljjgaa", sum := "34c4c8904830834e2919e704f57d5be95ba9d086522f3986cb3e1e2f5c485a1e", func := "hypogeum/hypogeumlaw06.GlyphRows", spec := "glyphRows", apart := false, narrowed := true }
def GlyphRowsUptoSaid : Prop := glyphRowsUptoRow.holds Try.pinned (OpenSpec.upto glyphRowsSpec)

/-- 'hypogeumlaw06.GlyphLess', WHERE WHAT IT READS IS OF BULK AT MOST 1048576: true; the input reads as it did. -/
def glyphLessUptoRow : OpenClaim := { program := "ytbbpdcnkiljjgaa", sum := "34c4c8904830834e2919e704f57d5be95ba9d086522f3986cb3e1e2f5c485a1e", func := "hypogeum/hypogeumlaw06.GlyphLess", spec := "glyphLess", apart := false, narrowed := true }
def GlyphLessUptoSaid : Prop := glyphLessUptoRow.holds Try.pinned (OpenSpec.upto glyphLessSpec)

/-- 'hypogeumlaw06.GlyphOnce', WHERE WHAT IT READS IS OF BULK AT MOST 1048576: true; the input reads as it did. -/
def glyphOnceUptoRow : OpenClaim := { program := "ytbbpdcnkiljjgaa", sum := "34c4c8904830834e2919e704f57d5be95ba9d086522f3986cb3e1e2f5c485a1e", func := "hypogeum/hypogeumlaw06.GlyphOnce", spec := "glyphOnce", apart := false, narrowed := true }
def GlyphOnceUptoSaid : Prop := glyphOnceUptoRow.holds Try.pinned (OpenSpec.upto glyphOnceSpec)

/-- 'hypogeumlaw06.GlyphBack', WHERE WHAT IT READS IS OF BULK AT MOST 1048576: true; the input reads as it did. -/
def glyphBackUptoRow : OpenClaim := { program := "ytbbpdcnkiljjgaa", sum := "34c4c8904830834e2919e704f57d5be95ba9d086522f3986cb3e1e2f5c485a1e", func := "hypogeum/hypogeumlaw06.GlyphBack", spec := "glyphBack", apart := false, narrowed := true }
def GlyphBackUptoSaid : Prop := glyphBackUptoRow.holds Try.pinned (OpenSpec.upto glyphBackSpec)

end Rows
end Go.Proofs.Ytbbpdcnkiljjgaa
