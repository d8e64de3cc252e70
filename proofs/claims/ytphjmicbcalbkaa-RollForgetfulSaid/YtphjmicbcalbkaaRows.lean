/-
  No cell of these rows narrows 'for every input' (looked for: loops, veiled, ifaces, maps, wideKeys, modest, calm, conditions, laid).
  DERIVED. THE GIVEN ROWS OF THIS SEAT. 6 by the template 'for every input the law returns true; each argument reads behind the call as it read before'; 0 by the template 'total and deterministic' (their statements: YtphjmicbcalbkaaTotals.lean).
  GIVEN WITH THE SEED: the statements are not yours to turn. If you find one false, say at which input.
  Laid BY PROGRAM, IN A SANDBOX (cutbox-rows.mjs): the forced cells as the released guide's own fill.sh prints them over the translation 919a8dbce385ff01… (all of the seat's roots in one cut). By AI agents, Wed Nov 11 2026. No macro, syntax, notation, axiom, sorry.
-/
import Derived.Test.YtphjmicbcalbkaaChecked
import GoSem.Claim
import GoSem.ClaimJoined
import GoSem.ClaimMapViews
import Derived.JoinedTies
import Derived.KernelRfl
namespace Go.Proofs.Ytphjmicbcalbkaa
/- THE CELL 'sum', in the pinned program and in every row, IS THE sha256 OF THE DUMP (.gsa) THAT YtphjmicbcalbkaaProg.lean LOADS. Nothing in Lean hashes anything: it is a label: what it is worth is what the hold of that sum in a sandbox is worth. -/
noncomputable def Try.pinned : Pinned := { name := "ytphjmicbcalbkaa", sum := "919a8dbce385ff01a93a51f3f753777450bfc16809f868da81dace7f2bdc1523", checked := Try.checked }
namespace Rows
def none {H : Type} : Left H := { results := [], args := [] }

/-- 'hypogeumlaw04.RollOf': WHATEVER THE INPUT: true; the input reads as it did. -/
def rollOfSpec : ChangeSpec := { name := "rollOf", fn := fun _ => fun
  | [d1, d2] => { results := [.lit (.bool true)], args := [d1, d2] }
  | _ => none }
def rollOfRow : OpenClaim := { program := "ytphjmicbcalbkaa", sum := "919a8dbce385ff01a93a51f3f753777450bfc16809f868da81dace7f2bdc1523", func := "hypogeum/hypogeumlaw04.RollOf", spec := "rollOf", apart := false }
def RollOfSaid : Prop := rollOfRow.holds Try.pinned (OpenSpec.ofChange rollOfSpec)

/-- ITS FALSE NEIGHBOUR: 'it returns false'. Refute it at one input. -/
def rollOfWrong : ChangeSpec := { name := "rollOf", fn := fun _ => fun
  | [d1, d2] => { results := [.lit (.bool false)], args := [d1, d2] }
  | _ => none }
def RollOfWrongFalsely : Prop := rollOfRow.holds Try.pinned (OpenSpec.ofChange rollOfWrong)

/-- 'hypogeumlaw04.RollAdds': WHATEVER THE INPUT: true; the input reads as it did. -/
def rollAddsSpec : ChangeSpec := { name := "rollAdds", fn := fun _ => fun
  | [d1, d2, d3] => { results := [.lit (.bool true)], args := [d1, d2, d3] }
  | _ => none }
def rollAddsRow : OpenClaim := { program := "ytphjmicbcalbkaa", sum := "919a8dbce385ff01a93a51f3f753777450bfc16809f868da81dace7f2bdc1523", func := "hypogeum/hypogeumlaw04.RollAdds", spec := "rollAdds", apart := false }
def RollAddsSaid : Prop := rollAddsRow.holds Try.pinned (OpenSpec.ofChange rollAddsSpec)

/-- ITS FALSE NEIGHBOUR: 'it returns false'. Refute it at one input. -/
def rollAddsWrong : ChangeSpec := { name := "rollAdds", fn := fun _ => fun
  | [d1, d2, d3] => { results := [.lit (.bool false)], args := [d1, d2, d3] }
  | _ => none }
def RollAddsWrongFalsely : Prop := rollAddsRow.holds Try.pinned (OpenSpec.ofChange rollAddsWrong)

/-- 'hypogeumlaw04.RollJoins': WHATEVER THE INPUT: true; the input reads as it did. -/
def rollJoinsSpec : ChangeSpec := { name := "rollJoins", fn := fun _ => fun
  | [d1, d2, d3] => { results := [.lit (.bool true)], args := [d1, d2, d3] }
  | _ => none }
def rollJoinsRow : OpenClaim := { program := "ytphjmicbcalbkaa", sum := "919a8dbce385ff01a93a51f3f753777450bfc16809f868da81dace7f2bdc1523", func := "hypogeum/hypogeumlaw04.RollJoins", spec := "rollJoins", apart := false }
def RollJoinsSaid : Prop := rollJoinsRow.holds Try.pinned (OpenSpec.ofChange rollJoinsSpec)

/-- ITS FALSE NEIGHBOUR: 'it returns false'. Refute it at one input. -/
def rollJoinsWrong : ChangeSpec := { name := "rollJoins", fn := fun _ => fun
  | [d1, d2, d3] => { results := [.lit (.bool false)], args := [d1, d2, d3] }
  | _ => none }
def RollJoinsWrongFalsely : Prop := rollJoinsRow.holds Try.pinned (OpenSpec.ofChange rollJoinsWrong)

/-- 'hypogeumlaw04.RollForgetful': WHATEVER THE INPUT: true; the input reads as it did. -/
def rollForgetfulSpec : ChangeSpec := { name := "rollForgetful", fn := fun _ => fun
  | [d] => { results := [.lit (.bool true)], args := [d] }
  | _ => none }
def rollForgetfulRow : OpenClaim := { program := "ytphjmicbcalbkaa", sum := "919a8dbce385ff01a93a51f3f753777450bfc16809f868da81dace7f2bdc1523", func := "hypogeum/hypogeumlaw04.RollForgetful", spec := "rollForgetful", apart := false }
def RollForgetfulSaid : Prop := rollForgetfulRow.holds Try.pinned (OpenSpec.ofChange rollForgetfulSpec)

/-- ITS FALSE NEIGHBOUR: 'it returns false'. Refute it at one input. -/
def rollForgetfulWrong : ChangeSpec := { name := "rollForgetful", fn := fun _ => fun
  | [d] => { results := [.lit (.bool false)], args := [d] }
  | _ => none }
def RollForgetfulWrongFalsely : Prop := rollForgetfulRow.holds Try.pinned (OpenSpec.ofChange rollForgetfulWrong)

/-- 'hypogeumlaw04.RollPushes': WHATEVER THE INPUT: true; the input reads as it did. -/
def rollPushesSpec : ChangeSpec := { name := "rollPushes", fn := fun _ => fun
  | [d1, d2, d3] => { results := [.lit (.bool true)], args := [d1, d2, d3] }
  | _ => none }
def rollPushesRow : OpenClaim := { program := "ytphjmicbcalbkaa", sum := "919a8dbce385ff01a93a51f3f753777450bfc16809f868da81dace7f2bdc1523", func := "hypogeum/hypogeumlaw04.RollPushes", spec := "rollPushes", apart := false }
def RollPushesSaid : Prop := rollPushesRow.holds Try.pinned (OpenSpec.ofChange rollPushesSpec)

/-- ITS FALSE NEIGHBOUR: 'it returns false'. Refute it at one input. -/
def rollPushesWrong : ChangeSpec := { name := "rollPushes", fn := fun _ => fun
  | [d1, d2, d3] => { results := [.lit (.bool false)], args := [d1, d2, d3] }
  | _ => none }
def RollPushesWrongFalsely : Prop := rollPushesRow.holds Try.pinned (OpenSpec.ofChange rollPushesWrong)

/-- 'hypogeumlaw04.RollParts': WHATEVER THE INPUT: true; the input reads as it did. -/
def rollPartsSpec : ChangeSpec := { name := "rollParts", fn := fun _ => fun
  | [d1, d2, d3] => { results := [.lit (.bool true)], args := [d1, d2, d3] }
  | _ => none }
def rollPartsRow : OpenClaim := { program := "ytphjmicbcalbkaa", sum := "919a8dbce385ff01a93a51f3f753777450bfc16809f868da81dace7f2bdc1523", func := "hypogeum/hypogeumlaw04.RollParts", spec := "rollParts", apart := false }
def RollPartsSaid : Prop := rollPartsRow.holds Try.pinned (OpenSpec.ofChange rollPartsSpec)

/-- ITS FALSE NEIGHBOUR: 'it returns false'. Refute it at one input. -/
def rollPartsWrong : ChangeSpec := { name := "rollParts", fn := fun _ => fun
  | [d1, d2, d3] => { results := [.lit (.bool false)], args := [d1, d2, d3] }
  | _ => none }
def RollPartsWrongFalsely : Prop := rollPartsRow.holds Try.pinned (OpenSpec.ofChange rollPartsWrong)

/- THE SECOND FORM. 'bulk': how many values and letters a reading holds, each counted each time it is reached (what is shared counts as often as it is met; a slice's spare places count too). A statement '..UptoSaid' is the law's where the arguments, and the package variables that the reading takes, are together of bulk at most 1048576: NARROWER than '..Said'. Prove '..Said' where nothing that the law and all that it calls make is longer than what came in: it says more and counts as full. Else prove '..UptoSaid'. A law counts once. -/
mutual
def uptoBulk {H : Type} : DataW H → Nat
  | .lit (.string bytes) => bytes.length + 1
  | .lit _ => 1
  | .nil => 1
  | .ptr d => uptoBulk d + 1
  | .slice elems spare => uptoBulkAll elems + uptoBulkAll spare + 1
  | .agg parts => uptoBulkAll parts + 1
  | .iface _ d => uptoBulk d + 1
  | .map entries => uptoBulkEntries entries + 1
  | .held _ => 1
def uptoBulkAll {H : Type} : List (DataW H) → Nat
  | [] => 0
  | d :: r => uptoBulk d + uptoBulkAll r
def uptoBulkEntries {H : Type} : List (Lit × DataW H) → Nat
  | [] => 0
  | x :: r => uptoBulkEntry x + uptoBulkEntries r
def uptoBulkEntry {H : Type} : Lit × DataW H → Nat
  | (.string bytes, d) => bytes.length + uptoBulk d + 1
  | (_, d) => uptoBulk d + 1
 end
def uptoSmall : (H : Type) → List (DataW H) → Bool := fun _ ds => decide (uptoBulkAll ds ≤ 1048576)
def OpenSpec.upto (s : _root_.Go.ChangeSpec) : _root_.Go.OpenSpec := { _root_.Go.OpenSpec.ofChange s with cond := some uptoSmall }

/-- 'hypogeumlaw04.RollOf', WHERE WHAT IT READS IS OF BULK AT MOST 1048576: true; the input reads as it did. -/
def rollOfUptoRow : OpenClaim := { program := "ytphjmicbcalbkaa", sum := "919a8dbce385ff01a93a51f3f753777450bfc16809f868da81dace7f2bdc1523", func := "hypogeum/hypogeumlaw04.RollOf", spec := "rollOf", apart := false, narrowed := true }
def RollOfUptoSaid : Prop := rollOfUptoRow.holds Try.pinned (OpenSpec.upto rollOfSpec)

/-- 'hypogeumlaw04.RollAdds', WHERE WHAT IT READS IS OF BULK AT MOST 1048576: true; the input reads as it did. -/
def rollAddsUptoRow : OpenClaim := { program := "ytphjmicbcalbkaa", sum := "919a8dbce385ff01a93a51f3f753777450bfc16809f868da81dace7f2bdc1523", func := "hypogeum/hypogeumlaw04.RollAdds", spec := "rollAdds", apart := false, narrowed := true }
def RollAddsUptoSaid : Prop := rollAddsUptoRow.holds Try.pinned (OpenSpec.upto rollAddsSpec)

/-- 'hypogeumlaw04.RollJoins', WHERE WHAT IT READS IS OF BULK AT MOST 1048576: true; the input reads as it did. -/
def rollJoinsUptoRow : OpenClaim := { program := "ytphjmicbcalbkaa", sum := "919a8dbce385ff01a93a51f3f753777450bfc16809f868da81dace7f2bdc1523", func := "hypogeum/hypogeumlaw04.RollJoins", spec := "rollJoins", apart := false, narrowed := true }
def RollJoinsUptoSaid : Prop := rollJoinsUptoRow.holds Try.pinned (OpenSpec.upto rollJoinsSpec)

/-- 'hypogeumlaw04.RollForgetful', WHERE WHAT IT READS IS OF BULK AT MOST 1048576: true; the input reads as it did. -/
def rollForgetfulUptoRow : OpenClaim := { program := "ytphjmicbcalbkaa", sum := "919a8dbce385ff01a93a51f3f753777450bfc16809f868da81dace7f2bdc1523", func := "hypogeum/hypogeumlaw04.RollForgetful", spec := "rollForgetful", apart := false, narrowed := true }
def RollForgetfulUptoSaid : Prop := rollForgetfulUptoRow.holds Try.pinned (OpenSpec.upto rollForgetfulSpec)

/-- 'hypogeumlaw04.RollPushes', WHERE WHAT IT READS IS OF BULK AT MOST 1048576: true; the input reads as it did. -/
def rollPushesUptoRow : OpenClaim := { program := "ytphjmicbcalbkaa", sum := "919a8dbce385ff01a93a51f3f753777450bfc16809f868da81dace7f2bdc1523", func := "hypogeum/hypogeumlaw04.RollPushes", spec := "rollPushes", apart := false, narrowed := true }
def RollPushesUptoSaid : Prop := rollPushesUptoRow.holds Try.pinned (OpenSpec.upto rollPushesSpec)

/-- 'hypogeumlaw04.RollParts', WHERE WHAT IT READS IS OF BULK AT MOST 1048576: true; the input reads as it did. -/
def rollPartsUptoRow : OpenClaim := { program := "ytphjmicbcalbkaa", sum := "919a8dbce385ff01a93a51f3f753777450bfc16809f868da81dace7f2bdc1523", func := "hypogeum/hypogeumlaw04.RollParts", spec := "rollParts", apart := false, narrowed := true }
def RollPartsUptoSaid : Prop := rollPartsUptoRow.holds Try.pinned (OpenSpec.upto rollPartsSpec)

end Rows
end Go.Proofs.Ytphjmicbcalbkaa
