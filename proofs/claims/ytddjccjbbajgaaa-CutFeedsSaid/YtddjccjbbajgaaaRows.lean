/-
  No cell of these rows narrows 'for every input' (looked for: loops, veiled, ifaces, maps, wideKeys, modest, calm, conditions, laid).
  DERIVED. THE GIVEN ROWS OF THIS SEAT. 7 by the template 'for every input the law returns true; each argument reads behind the call as it read before'; 0 by the template 'total and deterministic' (their statements: YtddjccjbbajgaaaTotals.lean).
  GIVEN WITH THE SEED: the statements are not yours to turn. If you find one false, say at which input.
  Laid BY PROGRAM, IN A SANDBOX (cutbox-rows.mjs): the forced cells as the released guide's own fill.sh prints them over the translation d7849ca4d6618aab… (all of the seat's roots in one cut). By AI agents, Wed Nov 11 2026. No macro, syntax, notation, axiom, sorry.
-/
import Derived.Test.YtddjccjbbajgaaaChecked
import GoSem.Claim
import GoSem.ClaimJoined
import GoSem.ClaimMapViews
import Derived.JoinedTies
import Derived.KernelRfl
namespace Go.Proofs.Ytddjccjbbajgaaa
/- THE CELL 'sum', in the pinned program and in every row, IS THE sha256 OF THE DUMP (.gsa) THAT YtddjccjbbajgaaaProg.lean LOADS. Nothing in Lean hashes anything: it is a label: what it is worth is what the hold of that sum in a sandbox is worth. -/
noncomputable def Try.pinned : Pinned := { name := "ytddjccjbbajgaaa", sum := "d7849ca4d6618aab35f1b3f6cbc8977dea743cc39081a5fd1cdc57f5d3986e6d", checked := Try.checked }
namespace Rows
def none {H : Type} : Left H := { results := [], args := [] }

/-- 'hypogeumlaw05.CutSizes': WHATEVER THE INPUT: true; the input reads as it did. -/
def cutSizesSpec : ChangeSpec := { name := "cutSizes", fn := fun _ => fun
  | [d1, d2] => { results := [.lit (.bool true)], args := [d1, d2] }
  | _ => none }
def cutSizesRow : OpenClaim := { program := "ytddjccjbbajgaaa", sum := "d7849ca4d6618aab35f1b3f6cbc8977dea743cc39081a5fd1cdc57f5d3986e6d", func := "hypogeum/hypogeumlaw05.CutSizes", spec := "cutSizes", apart := false }
def CutSizesSaid : Prop := cutSizesRow.holds Try.pinned (OpenSpec.ofChange cutSizesSpec)

/-- ITS FALSE NEIGHBOUR: 'it returns false'. Refute it at one input. -/
def cutSizesWrong : ChangeSpec := { name := "cutSizes", fn := fun _ => fun
  | [d1, d2] => { results := [.lit (.bool false)], args := [d1, d2] }
  | _ => none }
def CutSizesWrongFalsely : Prop := cutSizesRow.holds Try.pinned (OpenSpec.ofChange cutSizesWrong)

/-- 'hypogeumlaw05.CutFeeds': WHATEVER THE INPUT: true; the input reads as it did. -/
def cutFeedsSpec : ChangeSpec := { name := "cutFeeds", fn := fun _ => fun
  | [d1, d2, d3] => { results := [.lit (.bool true)], args := [d1, d2, d3] }
  | _ => none }
def cutFeedsRow : OpenClaim := { program := "ytddjccjbbajgaaa", sum := "d7849ca4d6618aab35f1b3f6cbc8977dea743cc39081a5fd1cdc57f5d3986e6d", func := "hypogeum/hypogeumlaw05.CutFeeds", spec := "cutFeeds", apart := false }
def CutFeedsSaid : Prop := cutFeedsRow.holds Try.pinned (OpenSpec.ofChange cutFeedsSpec)

/-- ITS FALSE NEIGHBOUR: 'it returns false'. Refute it at one input. -/
def cutFeedsWrong : ChangeSpec := { name := "cutFeeds", fn := fun _ => fun
  | [d1, d2, d3] => { results := [.lit (.bool false)], args := [d1, d2, d3] }
  | _ => none }
def CutFeedsWrongFalsely : Prop := cutFeedsRow.holds Try.pinned (OpenSpec.ofChange cutFeedsWrong)

/-- 'hypogeumlaw05.CutBounds': WHATEVER THE INPUT: true; the input reads as it did. -/
def cutBoundsSpec : ChangeSpec := { name := "cutBounds", fn := fun _ => fun
  | [d1, d2] => { results := [.lit (.bool true)], args := [d1, d2] }
  | _ => none }
def cutBoundsRow : OpenClaim := { program := "ytddjccjbbajgaaa", sum := "d7849ca4d6618aab35f1b3f6cbc8977dea743cc39081a5fd1cdc57f5d3986e6d", func := "hypogeum/hypogeumlaw05.CutBounds", spec := "cutBounds", apart := false }
def CutBoundsSaid : Prop := cutBoundsRow.holds Try.pinned (OpenSpec.ofChange cutBoundsSpec)

/-- ITS FALSE NEIGHBOUR: 'it returns false'. Refute it at one input. -/
def cutBoundsWrong : ChangeSpec := { name := "cutBounds", fn := fun _ => fun
  | [d1, d2] => { results := [.lit (.bool false)], args := [d1, d2] }
  | _ => none }
def CutBoundsWrongFalsely : Prop := cutBoundsRow.holds Try.pinned (OpenSpec.ofChange cutBoundsWrong)

/-- 'hypogeumlaw05.CutBehind': WHATEVER THE INPUT: true; the input reads as it did. -/
def cutBehindSpec : ChangeSpec := { name := "cutBehind", fn := fun _ => fun
  | [d1, d2, d3] => { results := [.lit (.bool true)], args := [d1, d2, d3] }
  | _ => none }
def cutBehindRow : OpenClaim := { program := "ytddjccjbbajgaaa", sum := "d7849ca4d6618aab35f1b3f6cbc8977dea743cc39081a5fd1cdc57f5d3986e6d", func := "hypogeum/hypogeumlaw05.CutBehind", spec := "cutBehind", apart := false }
def CutBehindSaid : Prop := cutBehindRow.holds Try.pinned (OpenSpec.ofChange cutBehindSpec)

/-- ITS FALSE NEIGHBOUR: 'it returns false'. Refute it at one input. -/
def cutBehindWrong : ChangeSpec := { name := "cutBehind", fn := fun _ => fun
  | [d1, d2, d3] => { results := [.lit (.bool false)], args := [d1, d2, d3] }
  | _ => none }
def CutBehindWrongFalsely : Prop := cutBehindRow.holds Try.pinned (OpenSpec.ofChange cutBehindWrong)

/-- 'hypogeumlaw05.CutMeeting': WHATEVER THE INPUT: true; the input reads as it did. -/
def cutMeetingSpec : ChangeSpec := { name := "cutMeeting", fn := fun _ => fun
  | [d] => { results := [.lit (.bool true)], args := [d] }
  | _ => none }
def cutMeetingRow : OpenClaim := { program := "ytddjccjbbajgaaa", sum := "d7849ca4d6618aab35f1b3f6cbc8977dea743cc39081a5fd1cdc57f5d3986e6d", func := "hypogeum/hypogeumlaw05.CutMeeting", spec := "cutMeeting", apart := false }
def CutMeetingSaid : Prop := cutMeetingRow.holds Try.pinned (OpenSpec.ofChange cutMeetingSpec)

/-- ITS FALSE NEIGHBOUR: 'it returns false'. Refute it at one input. -/
def cutMeetingWrong : ChangeSpec := { name := "cutMeeting", fn := fun _ => fun
  | [d] => { results := [.lit (.bool false)], args := [d] }
  | _ => none }
def CutMeetingWrongFalsely : Prop := cutMeetingRow.holds Try.pinned (OpenSpec.ofChange cutMeetingWrong)

/-- 'hypogeumlaw05.CutLeaves': WHATEVER THE INPUT: true; the input reads as it did. -/
def cutLeavesSpec : ChangeSpec := { name := "cutLeaves", fn := fun _ => fun
  | [d1, d2] => { results := [.lit (.bool true)], args := [d1, d2] }
  | _ => none }
def cutLeavesRow : OpenClaim := { program := "ytddjccjbbajgaaa", sum := "d7849ca4d6618aab35f1b3f6cbc8977dea743cc39081a5fd1cdc57f5d3986e6d", func := "hypogeum/hypogeumlaw05.CutLeaves", spec := "cutLeaves", apart := false }
def CutLeavesSaid : Prop := cutLeavesRow.holds Try.pinned (OpenSpec.ofChange cutLeavesSpec)

/-- ITS FALSE NEIGHBOUR: 'it returns false'. Refute it at one input. -/
def cutLeavesWrong : ChangeSpec := { name := "cutLeaves", fn := fun _ => fun
  | [d1, d2] => { results := [.lit (.bool false)], args := [d1, d2] }
  | _ => none }
def CutLeavesWrongFalsely : Prop := cutLeavesRow.holds Try.pinned (OpenSpec.ofChange cutLeavesWrong)

/-- 'hypogeumlaw05.CutNear': WHATEVER THE INPUT: true; the input reads as it did. -/
def cutNearSpec : ChangeSpec := { name := "cutNear", fn := fun _ => fun
  | [d1, d2, d3] => { results := [.lit (.bool true)], args := [d1, d2, d3] }
  | _ => none }
def cutNearRow : OpenClaim := { program := "ytddjccjbbajgaaa", sum := "d7849ca4d6618aab35f1b3f6cbc8977dea743cc39081a5fd1cdc57f5d3986e6d", func := "hypogeum/hypogeumlaw05.CutNear", spec := "cutNear", apart := false }
def CutNearSaid : Prop := cutNearRow.holds Try.pinned (OpenSpec.ofChange cutNearSpec)

/-- ITS FALSE NEIGHBOUR: 'it returns false'. Refute it at one input. -/
def cutNearWrong : ChangeSpec := { name := "cutNear", fn := fun _ => fun
  | [d1, d2, d3] => { results := [.lit (.bool false)], args := [d1, d2, d3] }
  | _ => none }
def CutNearWrongFalsely : Prop := cutNearRow.holds Try.pinned (OpenSpec.ofChange cutNearWrong)

/- THE SECOND FORM. 'bulk': how many values and letters a reading holds, each counted each time it is reached (what is shared counts as often as it is met; a slice's spare places count too). A statement '..UptoSaid' is the law's where the arguments, and the package variables that the reading takes, are together of bulk at most 1048576: NARROWER than '..Said'. Prove '..Said' where nothing that the law and all that it calls make is longer than what came in: it says more and counts as full. Else prove '..UptoSaid'. A law counts once. -/
mutual
def uptoBulk {H : Type} : DataW H → Nat
  | .lit (.string bytes) => bytes.length + 1
  | .lit _ => 1
  | .nil => 1
  | .ptr d => uptoBulk d + 1
  | .slice elems spare => uptoBulkAll elems + uptoBulkAll spare + 1
  | .agg parts => uptoBulkAll parts + 1
  | .iface _ d => uptoBulk d + 1
  | .map entries => uptoBulkEntries entries + 1
  | .held _ => 1
def uptoBulkAll {H : Type} : List (DataW H) → Nat
  | [] => 0
  | d :: r => uptoBulk d + uptoBulkAll r
def uptoBulkEntries {H : Type} : List (Lit × DataW H) → Nat
  | [] => 0
  | x :: r => uptoBulkEntry x + uptoBulkEntries r
def uptoBulkEntry {H : Type} : Lit × DataW H → Nat
  | (.string bytes, d) => bytes.length + uptoBulk d + 1
  | (_, d) => uptoBulk d + 1
 end
def uptoSmall : (H : Type) → List (DataW H) → Bool := fun _ ds => decide (uptoBulkAll ds ≤ 1048576)
def OpenSpec.upto (s : _root_.Go.ChangeSpec) : _root_.Go.OpenSpec := { _root_.Go.OpenSpec.ofChange s with cond := some uptoSmall }

/-- 'hypogeumlaw05.CutSizes', WHERE WHAT IT READS IS OF BULK AT MOST 1048576: true; the input reads as it did. -/
def cutSizesUptoRow : OpenClaim := { program := "ytddjccjbbajgaaa", sum := "d7849ca4d6618aab35f1b3f6cbc8977dea743cc39081a5fd1cdc57f5d3986e6d", func := "hypogeum/hypogeumlaw05.CutSizes", spec := "cutSizes", apart := false, narrowed := true }
def CutSizesUptoSaid : Prop := cutSizesUptoRow.holds Try.pinned (OpenSpec.upto cutSizesSpec)

/-- 'hypogeumlaw05.CutFeeds', WHERE WHAT IT READS IS OF BULK AT MOST 1048576: true; the input reads as it did. -/
def cutFeedsUptoRow : OpenClaim := { program := "ytddjccjbbajgaaa", sum := "d7849ca4d6618aab35f1b3f6cbc8977dea743cc39081a5fd1cdc57f5d3986e6d", func := "hypogeum/hypogeumlaw05.CutFeeds", spec := "cutFeeds", apart := false, narrowed := true }
def CutFeedsUptoSaid : Prop := cutFeedsUptoRow.holds Try.pinned (OpenSpec.upto cutFeedsSpec)

/-- 'hypogeumlaw05.CutBounds', WHERE WHAT IT READS IS OF BULK AT MOST 1048576: true; the input reads as it did. -/
def cutBoundsUptoRow : OpenClaim := { program := "ytddjccjbbajgaaa", sum := "d7849ca4d6618aab35f1b3f6cbc8977dea743cc39081a5fd1cdc57f5d3986e6d", func := "hypogeum/hypogeumlaw05.CutBounds", spec := "cutBounds", apart := false, narrowed := true }
def CutBoundsUptoSaid : Prop := cutBoundsUptoRow.holds Try.pinned (OpenSpec.upto cutBoundsSpec)

/-- 'hypogeumlaw05.CutBehind', WHERE WHAT IT READS IS OF BULK AT MOST 1048576: true; the input reads as it did. -/
def cutBehindUptoRow : OpenClaim := { program := "ytddjccjbbajgaaa", sum := "d7849ca4d6618aab35f1b3f6cbc8977dea743cc39081a5fd1cdc57f5d3986e6d", func := "hypogeum/hypogeumlaw05.CutBehind", spec := "cutBehind", apart := false, narrowed := true }
def CutBehindUptoSaid : Prop := cutBehindUptoRow.holds Try.pinned (OpenSpec.upto cutBehindSpec)

/-- 'hypogeumlaw05.CutMeeting', WHERE WHAT IT READS IS OF BULK AT MOST 1048576: true; the input reads as it did. -/
def cutMeetingUptoRow : OpenClaim := { program := "ytddjccjbbajgaaa", sum := "d7849ca4d6618aab35f1b3f6cbc8977dea743cc39081a5fd1cdc57f5d3986e6d", func := "hypogeum/hypogeumlaw05.CutMeeting", spec := "cutMeeting", apart := false, narrowed := true }
def CutMeetingUptoSaid : Prop := cutMeetingUptoRow.holds Try.pinned (OpenSpec.upto cutMeetingSpec)

/-- 'hypogeumlaw05.CutLeaves', WHERE WHAT IT READS IS OF BULK AT MOST 1048576: true; the input reads as it did. -/
def cutLeavesUptoRow : OpenClaim := { program := "ytddjccjbbajgaaa", sum := "d7849ca4d6618aab35f1b3f6cbc8977dea743cc39081a5fd1cdc57f5d3986e6d", func := "hypogeum/hypogeumlaw05.CutLeaves", spec := "cutLeaves", apart := false, narrowed := true }
def CutLeavesUptoSaid : Prop := cutLeavesUptoRow.holds Try.pinned (OpenSpec.upto cutLeavesSpec)

/-- 'hypogeumlaw05.CutNear', WHERE WHAT IT READS IS OF BULK AT MOST 1048576: true; the input reads as it did. -/
def cutNearUptoRow : OpenClaim := { program := "ytddjccjbbajgaaa", sum := "d7849ca4d6618aab35f1b3f6cbc8977dea743cc39081a5fd1cdc57f5d3986e6d", func := "hypogeum/hypogeumlaw05.CutNear", spec := "cutNear", apart := false, narrowed := true }
def CutNearUptoSaid : Prop := cutNearUptoRow.holds Try.pinned (OpenSpec.upto cutNearSpec)

end Rows
end Go.Proofs.Ytddjccjbbajgaaa
