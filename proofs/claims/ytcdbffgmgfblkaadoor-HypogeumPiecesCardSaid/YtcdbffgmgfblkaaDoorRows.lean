/-
  NARROWER THAN 'FOR EVERY INPUT', by the rows' own cells (each row's printed sentence says how): SumOf: laid · SumSame: laid · SumKeyed: laid · SumMixes: laid · SumStretches: laid · SumLeaves: laid · SumTexts: laid · KeyMakes: laid · KeyIds: laid · HypogeumPieces: laid · HypogeumKnife: laid.
  DERIVED. THE GIVEN ROWS OF THIS SEAT. 11 by the template 'for every input the law returns true; each argument reads behind the call as it read before'; 0 by the template 'total and deterministic' (their statements: YtcdbffgmgfblkaaDoorTotals.lean).
  GIVEN WITH THE SEED: the statements are not yours to turn. If you find one false, say at which input.
  Laid BY PROGRAM, IN A SANDBOX (cutbox-rows.mjs): the forced cells as the released guide's own fill.sh prints them over the translation 37dd0338d90cd41e… (all of the seat's roots in one cut). By AI agents, Wed Nov 11 2026. No macro, syntax, notation, axiom, sorry.
-/
import Derived.Test.YtcdbffgmgfblkaaDoorChecked
import GoSem.Claim
import GoSem.ClaimJoined
import GoSem.ClaimMapViews
import Derived.JoinedTies
import Derived.KernelRfl
namespace Go.Proofs.YtcdbffgmgfblkaaDoor
/- THE CELL 'sum', in the pinned program and in every row, IS THE sha256 OF THE DUMP (.gsa) THAT YtcdbffgmgfblkaaDoorProg.lean LOADS. Nothing in Lean hashes anything: it is a label: what it is worth is what the hold of that sum in a sandbox is worth. -/
noncomputable def Tryd.pinned : Pinned := { name := "ytcdbffgmgfblkaadoor", sum := "37dd0338d90cd41e57ad9b3b3d37c0b53034bbefbacdf680f922f939a9f12617", checked := Tryd.checked }
namespace Rows
def none {H : Type} : Left H := { results := [], args := [] }

/- WHAT THE LISTED PACKAGE-LEVEL VARIABLES READ AS WHEN THE CALL BEGINS. Each datum BY PROGRAM (the guide's laid-datum.mjs) off the statement by which the dump's own 'gosem.cut.vars' lays the variable. In a bare row this is a premise. The card (YtcdbffgmgfblkaaDoorCards.lean) ties it to the program's text. -/
def laid_hypogeum_sum_begin {H : Type} : DataW H := .agg [.lit (.int .u32 1779033703), .lit (.int .u32 3144134277), .lit (.int .u32 1013904242), .lit (.int .u32 2773480762), .lit (.int .u32 1359893119), .lit (.int .u32 2600822924), .lit (.int .u32 528734635), .lit (.int .u32 1541459225)]
def laid_hypogeum_sum_steps {H : Type} : DataW H := .agg [.lit (.int .u32 1116352408), .lit (.int .u32 1899447441), .lit (.int .u32 3049323471), .lit (.int .u32 3921009573), .lit (.int .u32 961987163), .lit (.int .u32 1508970993), .lit (.int .u32 2453635748), .lit (.int .u32 2870763221), .lit (.int .u32 3624381080), .lit (.int .u32 310598401), .lit (.int .u32 607225278), .lit (.int .u32 1426881987), .lit (.int .u32 1925078388), .lit (.int .u32 2162078206), .lit (.int .u32 2614888103), .lit (.int .u32 3248222580), .lit (.int .u32 3835390401), .lit (.int .u32 4022224774), .lit (.int .u32 264347078), .lit (.int .u32 604807628), .lit (.int .u32 770255983), .lit (.int .u32 1249150122), .lit (.int .u32 1555081692), .lit (.int .u32 1996064986), .lit (.int .u32 2554220882), .lit (.int .u32 2821834349), .lit (.int .u32 2952996808), .lit (.int .u32 3210313671), .lit (.int .u32 3336571891), .lit (.int .u32 3584528711), .lit (.int .u32 113926993), .lit (.int .u32 338241895), .lit (.int .u32 666307205), .lit (.int .u32 773529912), .lit (.int .u32 1294757372), .lit (.int .u32 1396182291), .lit (.int .u32 1695183700), .lit (.int .u32 1986661051), .lit (.int .u32 2177026350), .lit (.int .u32 2456956037), .lit (.int .u32 2730485921), .lit (.int .u32 2820302411), .lit (.int .u32 3259730800), .lit (.int .u32 3345764771), .lit (.int .u32 3516065817), .lit (.int .u32 3600352804), .lit (.int .u32 4094571909), .lit (.int .u32 275423344), .lit (.int .u32 430227734), .lit (.int .u32 506948616), .lit (.int .u32 659060556), .lit (.int .u32 883997877), .lit (.int .u32 958139571), .lit (.int .u32 1322822218), .lit (.int .u32 1537002063), .lit (.int .u32 1747873779), .lit (.int .u32 1955562222), .lit (.int .u32 2024104815), .lit (.int .u32 2227730452), .lit (.int .u32 2361852424), .lit (.int .u32 2428436474), .lit (.int .u32 2756734187), .lit (.int .u32 3204031479), .lit (.int .u32 3329325298)]

/-- 'hypogeumlaw01.SumOf': WHATEVER THE INPUT: true; the input reads as it did. -/
def sumOfSpec : ChangeSpec := { name := "sumOf", fn := fun _ => fun
  | [d1, d2, d3] => { results := [.lit (.bool true)], args := [d1, d2, d3] }
  | _ => none }
def sumOfRow : OpenClaim := { program := "ytcdbffgmgfblkaadoor", sum := "37dd0338d90cd41e57ad9b3b3d37c0b53034bbefbacdf680f922f939a9f12617", func := "hypogeum/hypogeumlaw01.SumOf", spec := "sumOf", named := ["hypogeum/sum.begin", "hypogeum/sum.steps"], apart := false, laid := [("hypogeum/sum.begin", laid_hypogeum_sum_begin), ("hypogeum/sum.steps", laid_hypogeum_sum_steps)] }
def SumOfSaid : Prop := sumOfRow.holds Tryd.pinned (OpenSpec.ofChange sumOfSpec)

/-- ITS FALSE NEIGHBOUR: 'it returns false'. Refute it at one input. -/
def sumOfWrong : ChangeSpec := { name := "sumOf", fn := fun _ => fun
  | [d1, d2, d3] => { results := [.lit (.bool false)], args := [d1, d2, d3] }
  | _ => none }
def SumOfWrongFalsely : Prop := sumOfRow.holds Tryd.pinned (OpenSpec.ofChange sumOfWrong)

/-- 'hypogeumlaw01.SumSame': WHATEVER THE INPUT: true; the input reads as it did. -/
def sumSameSpec : ChangeSpec := { name := "sumSame", fn := fun _ => fun
  | [d1, d2] => { results := [.lit (.bool true)], args := [d1, d2] }
  | _ => none }
def sumSameRow : OpenClaim := { program := "ytcdbffgmgfblkaadoor", sum := "37dd0338d90cd41e57ad9b3b3d37c0b53034bbefbacdf680f922f939a9f12617", func := "hypogeum/hypogeumlaw01.SumSame", spec := "sumSame", named := ["hypogeum/sum.begin", "hypogeum/sum.steps"], apart := false, laid := [("hypogeum/sum.begin", laid_hypogeum_sum_begin), ("hypogeum/sum.steps", laid_hypogeum_sum_steps)] }
def SumSameSaid : Prop := sumSameRow.holds Tryd.pinned (OpenSpec.ofChange sumSameSpec)

/-- ITS FALSE NEIGHBOUR: 'it returns false'. Refute it at one input. -/
def sumSameWrong : ChangeSpec := { name := "sumSame", fn := fun _ => fun
  | [d1, d2] => { results := [.lit (.bool false)], args := [d1, d2] }
  | _ => none }
def SumSameWrongFalsely : Prop := sumSameRow.holds Tryd.pinned (OpenSpec.ofChange sumSameWrong)

/-- 'hypogeumlaw01.SumKeyed': WHATEVER THE INPUT: true; the input reads as it did. -/
def sumKeyedSpec : ChangeSpec := { name := "sumKeyed", fn := fun _ => fun
  | [d1, d2, d3] => { results := [.lit (.bool true)], args := [d1, d2, d3] }
  | _ => none }
def sumKeyedRow : OpenClaim := { program := "ytcdbffgmgfblkaadoor", sum := "37dd0338d90cd41e57ad9b3b3d37c0b53034bbefbacdf680f922f939a9f12617", func := "hypogeum/hypogeumlaw01.SumKeyed", spec := "sumKeyed", named := ["hypogeum/sum.begin", "hypogeum/sum.steps"], apart := false, laid := [("hypogeum/sum.begin", laid_hypogeum_sum_begin), ("hypogeum/sum.steps", laid_hypogeum_sum_steps)] }
def SumKeyedSaid : Prop := sumKeyedRow.holds Tryd.pinned (OpenSpec.ofChange sumKeyedSpec)

/-- ITS FALSE NEIGHBOUR: 'it returns false'. Refute it at one input. -/
def sumKeyedWrong : ChangeSpec := { name := "sumKeyed", fn := fun _ => fun
  | [d1, d2, d3] => { results := [.lit (.bool false)], args := [d1, d2, d3] }
  | _ => none }
def SumKeyedWrongFalsely : Prop := sumKeyedRow.holds Tryd.pinned (OpenSpec.ofChange sumKeyedWrong)

/-- 'hypogeumlaw01.SumMixes': WHATEVER THE INPUT: true; the input reads as it did. -/
def sumMixesSpec : ChangeSpec := { name := "sumMixes", fn := fun _ => fun
  | [d1, d2, d3] => { results := [.lit (.bool true)], args := [d1, d2, d3] }
  | _ => none }
def sumMixesRow : OpenClaim := { program := "ytcdbffgmgfblkaadoor", sum := "37dd0338d90cd41e57ad9b3b3d37c0b53034bbefbacdf680f922f939a9f12617", func := "hypogeum/hypogeumlaw01.SumMixes", spec := "sumMixes", named := ["hypogeum/sum.begin", "hypogeum/sum.steps"], apart := false, laid := [("hypogeum/sum.begin", laid_hypogeum_sum_begin), ("hypogeum/sum.steps", laid_hypogeum_sum_steps)] }
def SumMixesSaid : Prop := sumMixesRow.holds Tryd.pinned (OpenSpec.ofChange sumMixesSpec)

/-- ITS FALSE NEIGHBOUR: 'it returns false'. Refute it at one input. -/
def sumMixesWrong : ChangeSpec := { name := "sumMixes", fn := fun _ => fun
  | [d1, d2, d3] => { results := [.lit (.bool false)], args := [d1, d2, d3] }
  | _ => none }
def SumMixesWrongFalsely : Prop := sumMixesRow.holds Tryd.pinned (OpenSpec.ofChange sumMixesWrong)

/-- 'hypogeumlaw01.SumStretches': WHATEVER THE INPUT: true; the input reads as it did. -/
def sumStretchesSpec : ChangeSpec := { name := "sumStretches", fn := fun _ => fun
  | [d1, d2, d3] => { results := [.lit (.bool true)], args := [d1, d2, d3] }
  | _ => none }
def sumStretchesRow : OpenClaim := { program := "ytcdbffgmgfblkaadoor", sum := "37dd0338d90cd41e57ad9b3b3d37c0b53034bbefbacdf680f922f939a9f12617", func := "hypogeum/hypogeumlaw01.SumStretches", spec := "sumStretches", named := ["hypogeum/sum.begin", "hypogeum/sum.steps"], apart := false, laid := [("hypogeum/sum.begin", laid_hypogeum_sum_begin), ("hypogeum/sum.steps", laid_hypogeum_sum_steps)] }
def SumStretchesSaid : Prop := sumStretchesRow.holds Tryd.pinned (OpenSpec.ofChange sumStretchesSpec)

/-- ITS FALSE NEIGHBOUR: 'it returns false'. Refute it at one input. -/
def sumStretchesWrong : ChangeSpec := { name := "sumStretches", fn := fun _ => fun
  | [d1, d2, d3] => { results := [.lit (.bool false)], args := [d1, d2, d3] }
  | _ => none }
def SumStretchesWrongFalsely : Prop := sumStretchesRow.holds Tryd.pinned (OpenSpec.ofChange sumStretchesWrong)

/-- 'hypogeumlaw01.SumLeaves': WHATEVER THE INPUT: true; the input reads as it did. -/
def sumLeavesSpec : ChangeSpec := { name := "sumLeaves", fn := fun _ => fun
  | [d1, d2] => { results := [.lit (.bool true)], args := [d1, d2] }
  | _ => none }
def sumLeavesRow : OpenClaim := { program := "ytcdbffgmgfblkaadoor", sum := "37dd0338d90cd41e57ad9b3b3d37c0b53034bbefbacdf680f922f939a9f12617", func := "hypogeum/hypogeumlaw01.SumLeaves", spec := "sumLeaves", named := ["hypogeum/sum.begin", "hypogeum/sum.steps"], apart := false, laid := [("hypogeum/sum.begin", laid_hypogeum_sum_begin), ("hypogeum/sum.steps", laid_hypogeum_sum_steps)] }
def SumLeavesSaid : Prop := sumLeavesRow.holds Tryd.pinned (OpenSpec.ofChange sumLeavesSpec)

/-- ITS FALSE NEIGHBOUR: 'it returns false'. Refute it at one input. -/
def sumLeavesWrong : ChangeSpec := { name := "sumLeaves", fn := fun _ => fun
  | [d1, d2] => { results := [.lit (.bool false)], args := [d1, d2] }
  | _ => none }
def SumLeavesWrongFalsely : Prop := sumLeavesRow.holds Tryd.pinned (OpenSpec.ofChange sumLeavesWrong)

/-- 'hypogeumlaw01.SumTexts': WHATEVER THE INPUT: true; the input reads as it did. -/
def sumTextsSpec : ChangeSpec := { name := "sumTexts", fn := fun _ => fun
  | [d1, d2] => { results := [.lit (.bool true)], args := [d1, d2] }
  | _ => none }
def sumTextsRow : OpenClaim := { program := "ytcdbffgmgfblkaadoor", sum := "37dd0338d90cd41e57ad9b3b3d37c0b53034bbefbacdf680f922f939a9f12617", func := "hypogeum/hypogeumlaw01.SumTexts", spec := "sumTexts", inPlace := ["internal/bytealg.IndexByteString"], named := ["hypogeum/sum.begin", "hypogeum/sum.steps"], apart := false, laid := [("hypogeum/sum.begin", laid_hypogeum_sum_begin), ("hypogeum/sum.steps", laid_hypogeum_sum_steps)] }
def SumTextsSaid : Prop := sumTextsRow.holds Tryd.pinned (OpenSpec.ofChange sumTextsSpec)

/-- ITS FALSE NEIGHBOUR: 'it returns false'. Refute it at one input. -/
def sumTextsWrong : ChangeSpec := { name := "sumTexts", fn := fun _ => fun
  | [d1, d2] => { results := [.lit (.bool false)], args := [d1, d2] }
  | _ => none }
def SumTextsWrongFalsely : Prop := sumTextsRow.holds Tryd.pinned (OpenSpec.ofChange sumTextsWrong)

/-- 'hypogeumlaw11.KeyMakes': WHATEVER THE INPUT: true; the input reads as it did. -/
def keyMakesSpec : ChangeSpec := { name := "keyMakes", fn := fun _ => fun
  | [d1, d2, d3] => { results := [.lit (.bool true)], args := [d1, d2, d3] }
  | _ => none }
def keyMakesRow : OpenClaim := { program := "ytcdbffgmgfblkaadoor", sum := "37dd0338d90cd41e57ad9b3b3d37c0b53034bbefbacdf680f922f939a9f12617", func := "hypogeum/hypogeumlaw11.KeyMakes", spec := "keyMakes", unfollowed := true, recurses := true, named := ["hypogeum/sum.begin", "hypogeum/sum.steps"], apart := false, laid := [("hypogeum/sum.begin", laid_hypogeum_sum_begin), ("hypogeum/sum.steps", laid_hypogeum_sum_steps)] }
def KeyMakesSaid : Prop := keyMakesRow.holds Tryd.pinned (OpenSpec.ofChange keyMakesSpec)

/-- ITS FALSE NEIGHBOUR: 'it returns false'. Refute it at one input. -/
def keyMakesWrong : ChangeSpec := { name := "keyMakes", fn := fun _ => fun
  | [d1, d2, d3] => { results := [.lit (.bool false)], args := [d1, d2, d3] }
  | _ => none }
def KeyMakesWrongFalsely : Prop := keyMakesRow.holds Tryd.pinned (OpenSpec.ofChange keyMakesWrong)

/-- 'hypogeumlaw11.KeyIds': WHATEVER THE INPUT: true; the input reads as it did. -/
def keyIdsSpec : ChangeSpec := { name := "keyIds", fn := fun _ => fun
  | [d] => { results := [.lit (.bool true)], args := [d] }
  | _ => none }
def keyIdsRow : OpenClaim := { program := "ytcdbffgmgfblkaadoor", sum := "37dd0338d90cd41e57ad9b3b3d37c0b53034bbefbacdf680f922f939a9f12617", func := "hypogeum/hypogeumlaw11.KeyIds", spec := "keyIds", unfollowed := true, recurses := true, named := ["hypogeum/sum.begin", "hypogeum/sum.steps"], apart := false, laid := [("hypogeum/sum.begin", laid_hypogeum_sum_begin), ("hypogeum/sum.steps", laid_hypogeum_sum_steps)] }
def KeyIdsSaid : Prop := keyIdsRow.holds Tryd.pinned (OpenSpec.ofChange keyIdsSpec)

/-- ITS FALSE NEIGHBOUR: 'it returns false'. Refute it at one input. -/
def keyIdsWrong : ChangeSpec := { name := "keyIds", fn := fun _ => fun
  | [d] => { results := [.lit (.bool false)], args := [d] }
  | _ => none }
def KeyIdsWrongFalsely : Prop := keyIdsRow.holds Tryd.pinned (OpenSpec.ofChange keyIdsWrong)

/-- 'hypogeumtop.HypogeumPieces': WHATEVER THE INPUT: true; the input reads as it did. -/
def hypogeumPiecesSpec : ChangeSpec := { name := "hypogeumPieces", fn := fun _ => fun
  | [d1, d2, d3] => { results := [.lit (.bool true)], args := [d1, d2, d3] }
  | _ => none }
def hypogeumPiecesRow : OpenClaim := { program := "ytcdbffgmgfblkaadoor", sum := "37dd0338d90cd41e57ad9b3b3d37c0b53034bbefbacdf680f922f939a9f12617", func := "hypogeum/hypogeumtop.HypogeumPieces", spec := "hypogeumPieces", named := ["hypogeum/sum.begin", "hypogeum/sum.steps"], apart := false, laid := [("hypogeum/sum.begin", laid_hypogeum_sum_begin), ("hypogeum/sum.steps", laid_hypogeum_sum_steps)] }
def HypogeumPiecesSaid : Prop := hypogeumPiecesRow.holds Tryd.pinned (OpenSpec.ofChange hypogeumPiecesSpec)

/-- ITS FALSE NEIGHBOUR: 'it returns false'. Refute it at one input. -/
def hypogeumPiecesWrong : ChangeSpec := { name := "hypogeumPieces", fn := fun _ => fun
  | [d1, d2, d3] => { results := [.lit (.bool false)], args := [d1, d2, d3] }
  | _ => none }
def HypogeumPiecesWrongFalsely : Prop := hypogeumPiecesRow.holds Tryd.pinned (OpenSpec.ofChange hypogeumPiecesWrong)

/-- 'hypogeumtop.HypogeumKnife': WHATEVER THE INPUT: true; the input reads as it did. -/
def hypogeumKnifeSpec : ChangeSpec := { name := "hypogeumKnife", fn := fun _ => fun
  | [d] => { results := [.lit (.bool true)], args := [d] }
  | _ => none }
def hypogeumKnifeRow : OpenClaim := { program := "ytcdbffgmgfblkaadoor", sum := "37dd0338d90cd41e57ad9b3b3d37c0b53034bbefbacdf680f922f939a9f12617", func := "hypogeum/hypogeumtop.HypogeumKnife", spec := "hypogeumKnife", named := ["hypogeum/sum.begin", "hypogeum/sum.steps"], apart := false, laid := [("hypogeum/sum.begin", laid_hypogeum_sum_begin), ("hypogeum/sum.steps", laid_hypogeum_sum_steps)] }
def HypogeumKnifeSaid : Prop := hypogeumKnifeRow.holds Tryd.pinned (OpenSpec.ofChange hypogeumKnifeSpec)

/-- ITS FALSE NEIGHBOUR: 'it returns false'. Refute it at one input. -/
def hypogeumKnifeWrong : ChangeSpec := { name := "hypogeumKnife", fn := fun _ => fun
  | [d] => { results := [.lit (.bool false)], args := [d] }
  | _ => none }
def HypogeumKnifeWrongFalsely : Prop := hypogeumKnifeRow.holds Tryd.pinned (OpenSpec.ofChange hypogeumKnifeWrong)

/- THE SECOND FORM. 'bulk': how many values and letters a reading holds, each counted each time it is reached (what is shared counts as often as it is met; a slice's spare places count too). A statement '..UptoSaid' is the law's where the arguments, and the package variables that the reading takes, are together of bulk at most 1048576: NARROWER than '..Said'. Prove '..Said' where nothing that the law and all that it calls make is longer than what came in: it says more and counts as full. Else prove '..UptoSaid'. A law counts once. -/
mutual
def uptoBulk {H : Type} : DataW H → Nat
  | .lit (.string bytes) => bytes.length + 1
  | .lit _ => 1
  | .nil => 1
  | .ptr d => uptoBulk d + 1
  | .slice elems spare => uptoBulkAll elems + uptoBulkAll spare + 1
  | .agg parts => uptoBulkAll parts + 1
  | .iface _ d => uptoBulk d + 1
  | .map entries => uptoBulkEntries entries + 1
  | .held _ => 1
def uptoBulkAll {H : Type} : List (DataW H) → Nat
  | [] => 0
  | d :: r => uptoBulk d + uptoBulkAll r
def uptoBulkEntries {H : Type} : List (Lit × DataW H) → Nat
  | [] => 0
  | x :: r => uptoBulkEntry x + uptoBulkEntries r
def uptoBulkEntry {H : Type} : Lit × DataW H → Nat
  | (.string bytes, d) => bytes.length + uptoBulk d + 1
  | (_, d) => uptoBulk d + 1
 end
def uptoSmall : (H : Type) → List (DataW H) → Bool := fun _ ds => decide (uptoBulkAll ds ≤ 1048576)
def OpenSpec.upto (s : _root_.Go.ChangeSpec) : _root_.Go.OpenSpec := { _root_.Go.OpenSpec.ofChange s with cond := some uptoSmall }

/-- 'hypogeumlaw01.SumOf', WHERE WHAT IT READS IS OF BULK AT MOST 1048576: true; the input reads as it did. -/
def sumOfUptoRow : OpenClaim := { program := "ytcdbffgmgfblkaadoor", sum := "37dd0338d90cd41e57ad9b3b3d37c0b53034bbefbacdf680f922f939a9f12617", func := "hypogeum/hypogeumlaw01.SumOf", spec := "sumOf", named := ["hypogeum/sum.begin", "hypogeum/sum.steps"], apart := false, laid := [("hypogeum/sum.begin", laid_hypogeum_sum_begin), ("hypogeum/sum.steps", laid_hypogeum_sum_steps)], narrowed := true }
def SumOfUptoSaid : Prop := sumOfUptoRow.holds Tryd.pinned (OpenSpec.upto sumOfSpec)

/-- 'hypogeumlaw01.SumSame', WHERE WHAT IT READS IS OF BULK AT MOST 1048576: true; the input reads as it did. -/
def sumSameUptoRow : OpenClaim := { program := "ytcdbffgmgfblkaadoor", sum := "37dd0338d90cd41e57ad9b3b3d37c0b53034bbefbacdf680f922f939a9f12617", func := "hypogeum/hypogeumlaw01.SumSame", spec := "sumSame", named := ["hypogeum/sum.begin", "hypogeum/sum.steps"], apart := false, laid := [("hypogeum/sum.begin", laid_hypogeum_sum_begin), ("hypogeum/sum.steps", laid_hypogeum_sum_steps)], narrowed := true }
def SumSameUptoSaid : Prop := sumSameUptoRow.holds Tryd.pinned (OpenSpec.upto sumSameSpec)

/-- 'hypogeumlaw01.SumKeyed', WHERE WHAT IT READS IS OF BULK AT MOST 1048576: true; the input reads as it did. -/
def sumKeyedUptoRow : OpenClaim := { program := "ytcdbffgmgfblkaadoor", sum := "37dd0338d90cd41e57ad9b3b3d37c0b53034bbefbacdf680f922f939a9f12617", func := "hypogeum/hypogeumlaw01.SumKeyed", spec := "sumKeyed", named := ["hypogeum/sum.begin", "hypogeum/sum.steps"], apart := false, laid := [("hypogeum/sum.begin", laid_hypogeum_sum_begin), ("hypogeum/sum.steps", laid_hypogeum_sum_steps)], narrowed := true }
def SumKeyedUptoSaid : Prop := sumKeyedUptoRow.holds Tryd.pinned (OpenSpec.upto sumKeyedSpec)

/-- 'hypogeumlaw01.SumMixes', WHERE WHAT IT READS IS OF BULK AT MOST 1048576: true; the input reads as it did. -/
def sumMixesUptoRow : OpenClaim := { program := "ytcdbffgmgfblkaadoor", sum := "37dd0338d90cd41e57ad9b3b3d37c0b53034bbefbacdf680f922f939a9f12617", func := "hypogeum/hypogeumlaw01.SumMixes", spec := "sumMixes", named := ["hypogeum/sum.begin", "hypogeum/sum.steps"], apart := false, laid := [("hypogeum/sum.begin", laid_hypogeum_sum_begin), ("hypogeum/sum.steps", laid_hypogeum_sum_steps)], narrowed := true }
def SumMixesUptoSaid : Prop := sumMixesUptoRow.holds Tryd.pinned (OpenSpec.upto sumMixesSpec)

/-- 'hypogeumlaw01.SumStretches', WHERE WHAT IT READS IS OF BULK AT MOST 1048576: true; the input reads as it did. -/
def sumStretchesUptoRow : OpenClaim := { program := "ytcdbffgmgfblkaadoor", sum := "37dd0338d90cd41e57ad9b3b3d37c0b53034bbefbacdf680f922f939a9f12617", func := "hypogeum/hypogeumlaw01.SumStretches", spec := "sumStretches", named := ["hypogeum/sum.begin", "hypogeum/sum.steps"], apart := false, laid := [("hypogeum/sum.begin", laid_hypogeum_sum_begin), ("hypogeum/sum.steps", laid_hypogeum_sum_steps)], narrowed := true }
def SumStretchesUptoSaid : Prop := sumStretchesUptoRow.holds Tryd.pinned (OpenSpec.upto sumStretchesSpec)

/-- 'hypogeumlaw01.SumLeaves', WHERE WHAT IT READS IS OF BULK AT MOST 1048576: true; the input reads as it did. -/
def sumLeavesUptoRow : OpenClaim := { program := "ytcdbffgmgfblkaadoor", sum := "37dd0338d90cd41e57ad9b3b3d37c0b53034bbefbacdf680f922f939a9f12617", func := "hypogeum/hypogeumlaw01.SumLeaves", spec := "sumLeaves", named := ["hypogeum/sum.begin", "hypogeum/sum.steps"], apart := false, laid := [("hypogeum/sum.begin", laid_hypogeum_sum_begin), ("hypogeum/sum.steps", laid_hypogeum_sum_steps)], narrowed := true }
def SumLeavesUptoSaid : Prop := sumLeavesUptoRow.holds Tryd.pinned (OpenSpec.upto sumLeavesSpec)

/-- 'hypogeumlaw01.SumTexts', WHERE WHAT IT READS IS OF BULK AT MOST 1048576: true; the input reads as it did. -/
def sumTextsUptoRow : OpenClaim := { program := "ytcdbffgmgfblkaadoor", sum := "37dd0338d90cd41e57ad9b3b3d37c0b53034bbefbacdf680f922f939a9f12617", func := "hypogeum/hypogeumlaw01.SumTexts", spec := "sumTexts", inPlace := ["internal/bytealg.IndexByteString"], named := ["hypogeum/sum.begin", "hypogeum/sum.steps"], apart := false, laid := [("hypogeum/sum.begin", laid_hypogeum_sum_begin), ("hypogeum/sum.steps", laid_hypogeum_sum_steps)], narrowed := true }
def SumTextsUptoSaid : Prop := sumTextsUptoRow.holds Tryd.pinned (OpenSpec.upto sumTextsSpec)

/-- 'hypogeumlaw11.KeyMakes', WHERE WHAT IT READS IS OF BULK AT MOST 1048576: true; the input reads as it did. -/
def keyMakesUptoRow : OpenClaim := { program := "ytcdbffgmgfblkaadoor", sum := "37dd0338d90cd41e57ad9b3b3d37c0b53034bbefbacdf680f922f939a9f12617", func := "hypogeum/hypogeumlaw11.KeyMakes", spec := "keyMakes", unfollowed := true, recurses := true, named := ["hypogeum/sum.begin", "hypogeum/sum.steps"], apart := false, laid := [("hypogeum/sum.begin", laid_hypogeum_sum_begin), ("hypogeum/sum.steps", laid_hypogeum_sum_steps)], narrowed := true }
def KeyMakesUptoSaid : Prop := keyMakesUptoRow.holds Tryd.pinned (OpenSpec.upto keyMakesSpec)

/-- 'hypogeumlaw11.KeyIds', WHERE WHAT IT READS IS OF BULK AT MOST 1048576: true; the input reads as it did. -/
def keyIdsUptoRow : OpenClaim := { program := "ytcdbffgmgfblkaadoor", sum := "37dd0338d90cd41e57ad9b3b3d37c0b53034bbefbacdf680f922f939a9f12617", func := "hypogeum/hypogeumlaw11.KeyIds", spec := "keyIds", unfollowed := true, recurses := true, named := ["hypogeum/sum.begin", "hypogeum/sum.steps"], apart := false, laid := [("hypogeum/sum.begin", laid_hypogeum_sum_begin), ("hypogeum/sum.steps", laid_hypogeum_sum_steps)], narrowed := true }
def KeyIdsUptoSaid : Prop := keyIdsUptoRow.holds Tryd.pinned (OpenSpec.upto keyIdsSpec)

/-- 'hypogeumtop.HypogeumPieces', WHERE WHAT IT READS IS OF BULK AT MOST 1048576: true; the input reads as it did. -/
def hypogeumPiecesUptoRow : OpenClaim := { program := "ytcdbffgmgfblkaadoor", sum := "37dd0338d90cd41e57ad9b3b3d37c0b53034bbefbacdf680f922f939a9f12617", func := "hypogeum/hypogeumtop.HypogeumPieces", spec := "hypogeumPieces", named := ["hypogeum/sum.begin", "hypogeum/sum.steps"], apart := false, laid := [("hypogeum/sum.begin", laid_hypogeum_sum_begin), ("hypogeum/sum.steps", laid_hypogeum_sum_steps)], narrowed := true }
def HypogeumPiecesUptoSaid : Prop := hypogeumPiecesUptoRow.holds Tryd.pinned (OpenSpec.upto hypogeumPiecesSpec)

/-- 'hypogeumtop.HypogeumKnife', WHERE WHAT IT READS IS OF BULK AT MOST 1048576: true; the input reads as it did. -/
def hypogeumKnifeUptoRow : OpenClaim := { program := "ytcdbffgmgfblkaadoor", sum := "37dd0338d90cd41e57ad9b3b3d37c0b53034bbefbacdf680f922f939a9f12617", func := "hypogeum/hypogeumtop.HypogeumKnife", spec := "hypogeumKnife", named := ["hypogeum/sum.begin", "hypogeum/sum.steps"], apart := false, laid := [("hypogeum/sum.begin", laid_hypogeum_sum_begin), ("hypogeum/sum.steps", laid_hypogeum_sum_steps)], narrowed := true }
def HypogeumKnifeUptoSaid : Prop := hypogeumKnifeUptoRow.holds Tryd.pinned (OpenSpec.upto hypogeumKnifeSpec)

end Rows
end Go.Proofs.YtcdbffgmgfblkaaDoor
