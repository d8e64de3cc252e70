/-
  DERIVED. GIVEN WITH THE SEED: THE CARDS: each row of YtcdbffgmgfblkaaDoorRows.lean that lists a variable, with what it lists TIED to the program's text (the seventh form; the later family's looks); each row that meets fmt, with fmt's text TOLD by the authors' own Lean function (tested against real Go, not proved from fmt's source: count such statements apart). THE CARD IS WHAT COUNTS. Prove the row's statement (the work); the ties are given (YtcdbffgmgfblkaaDoorTie.lean); close each card by the builder's one call (the guide's Derived/Test/ToyasCard.lean, 'card_holds'). Laid BY PROGRAM, IN A SANDBOX (cutbox-door.mjs). By AI agents, Wed Nov 11 2026. No macro, syntax, notation, axiom, sorry.
-/
import Derived.Test.YtcdbffgmgfblkaaDoorRows
import GoSem.ClaimSeven
namespace Go.Proofs.YtcdbffgmgfblkaaDoor
namespace Rows

/-- THE TIED CARD OF 'hypogeumlaw01.SumOf'. -/
def sumOfCard : Claim7 := { stood := { row := sumOfRow, standIns := [], harness := (true, "74068b05e1a5fd953fd6569ee6ea302716c5df41d49124002dc810a12a38a923"), looks := false }, kinds := [], alts := [], laidByText := true, laidKinds := [.data, .data], laidTests := true, laidLooks := .later }
def SumOfCardSaid : Prop := Claim7.holds Tryd.pinned (.plain (OpenSpec.ofChange sumOfSpec)) sumOfCard

/-- THE TIED CARD OF 'hypogeumlaw01.SumSame'. -/
def sumSameCard : Claim7 := { stood := { row := sumSameRow, standIns := [], harness := (true, "74068b05e1a5fd953fd6569ee6ea302716c5df41d49124002dc810a12a38a923"), looks := false }, kinds := [], alts := [], laidByText := true, laidKinds := [.data, .data], laidTests := true, laidLooks := .later }
def SumSameCardSaid : Prop := Claim7.holds Tryd.pinned (.plain (OpenSpec.ofChange sumSameSpec)) sumSameCard

/-- THE TIED CARD OF 'hypogeumlaw01.SumKeyed'. -/
def sumKeyedCard : Claim7 := { stood := { row := sumKeyedRow, standIns := [], harness := (true, "74068b05e1a5fd953fd6569ee6ea302716c5df41d49124002dc810a12a38a923"), looks := false }, kinds := [], alts := [], laidByText := true, laidKinds := [.data, .data], laidTests := true, laidLooks := .later }
def SumKeyedCardSaid : Prop := Claim7.holds Tryd.pinned (.plain (OpenSpec.ofChange sumKeyedSpec)) sumKeyedCard

/-- THE TIED CARD OF 'hypogeumlaw01.SumMixes'. -/
def sumMixesCard : Claim7 := { stood := { row := sumMixesRow, standIns := [], harness := (true, "74068b05e1a5fd953fd6569ee6ea302716c5df41d49124002dc810a12a38a923"), looks := false }, kinds := [], alts := [], laidByText := true, laidKinds := [.data, .data], laidTests := true, laidLooks := .later }
def SumMixesCardSaid : Prop := Claim7.holds Tryd.pinned (.plain (OpenSpec.ofChange sumMixesSpec)) sumMixesCard

/-- THE TIED CARD OF 'hypogeumlaw01.SumStretches'. -/
def sumStretchesCard : Claim7 := { stood := { row := sumStretchesRow, standIns := [], harness := (true, "74068b05e1a5fd953fd6569ee6ea302716c5df41d49124002dc810a12a38a923"), looks := false }, kinds := [], alts := [], laidByText := true, laidKinds := [.data, .data], laidTests := true, laidLooks := .later }
def SumStretchesCardSaid : Prop := Claim7.holds Tryd.pinned (.plain (OpenSpec.ofChange sumStretchesSpec)) sumStretchesCard

/-- THE TIED CARD OF 'hypogeumlaw01.SumLeaves'. -/
def sumLeavesCard : Claim7 := { stood := { row := sumLeavesRow, standIns := [], harness := (true, "74068b05e1a5fd953fd6569ee6ea302716c5df41d49124002dc810a12a38a923"), looks := false }, kinds := [], alts := [], laidByText := true, laidKinds := [.data, .data], laidTests := true, laidLooks := .later }
def SumLeavesCardSaid : Prop := Claim7.holds Tryd.pinned (.plain (OpenSpec.ofChange sumLeavesSpec)) sumLeavesCard

/-- THE TIED CARD OF 'hypogeumlaw01.SumTexts'. -/
def sumTextsCard : Claim7 := { stood := { row := sumTextsRow, standIns := [], harness := (true, "74068b05e1a5fd953fd6569ee6ea302716c5df41d49124002dc810a12a38a923"), looks := false }, kinds := [], alts := [], laidByText := true, laidKinds := [.data, .data], laidTests := true, laidLooks := .later }
def SumTextsCardSaid : Prop := Claim7.holds Tryd.pinned (.plain (OpenSpec.ofChange sumTextsSpec)) sumTextsCard

/-- THE TIED CARD OF 'hypogeumlaw11.KeyMakes'. -/
def keyMakesCard : Claim7 := { stood := { row := keyMakesRow, standIns := [], harness := (true, "74068b05e1a5fd953fd6569ee6ea302716c5df41d49124002dc810a12a38a923"), looks := false }, kinds := [], alts := [], laidByText := true, laidKinds := [.data, .data], laidTests := true, laidLooks := .later }
def KeyMakesCardSaid : Prop := Claim7.holds Tryd.pinned (.plain (OpenSpec.ofChange keyMakesSpec)) keyMakesCard

/-- THE TIED CARD OF 'hypogeumlaw11.KeyIds'. -/
def keyIdsCard : Claim7 := { stood := { row := keyIdsRow, standIns := [], harness := (true, "74068b05e1a5fd953fd6569ee6ea302716c5df41d49124002dc810a12a38a923"), looks := false }, kinds := [], alts := [], laidByText := true, laidKinds := [.data, .data], laidTests := true, laidLooks := .later }
def KeyIdsCardSaid : Prop := Claim7.holds Tryd.pinned (.plain (OpenSpec.ofChange keyIdsSpec)) keyIdsCard

/-- THE TIED CARD OF 'hypogeumtop.HypogeumPieces'. -/
def hypogeumPiecesCard : Claim7 := { stood := { row := hypogeumPiecesRow, standIns := [], harness := (true, "74068b05e1a5fd953fd6569ee6ea302716c5df41d49124002dc810a12a38a923"), looks := false }, kinds := [], alts := [], laidByText := true, laidKinds := [.data, .data], laidTests := true, laidLooks := .later }
def HypogeumPiecesCardSaid : Prop := Claim7.holds Tryd.pinned (.plain (OpenSpec.ofChange hypogeumPiecesSpec)) hypogeumPiecesCard

/-- THE TIED CARD OF 'hypogeumtop.HypogeumKnife'. -/
def hypogeumKnifeCard : Claim7 := { stood := { row := hypogeumKnifeRow, standIns := [], harness := (true, "74068b05e1a5fd953fd6569ee6ea302716c5df41d49124002dc810a12a38a923"), looks := false }, kinds := [], alts := [], laidByText := true, laidKinds := [.data, .data], laidTests := true, laidLooks := .later }
def HypogeumKnifeCardSaid : Prop := Claim7.holds Tryd.pinned (.plain (OpenSpec.ofChange hypogeumKnifeSpec)) hypogeumKnifeCard

/-- THE SECOND FORM's CARD OF 'hypogeumlaw01.SumOf'. -/
def sumOfUptoCard : Claim7 := { stood := { row := sumOfUptoRow, standIns := [], harness := (true, "74068b05e1a5fd953fd6569ee6ea302716c5df41d49124002dc810a12a38a923"), looks := false }, kinds := [], alts := [], laidByText := true, laidKinds := [.data, .data], laidTests := true, laidLooks := .later }
def SumOfUptoCardSaid : Prop := Claim7.holds Tryd.pinned (.plain (OpenSpec.upto sumOfSpec)) sumOfUptoCard

/-- THE SECOND FORM's CARD OF 'hypogeumlaw01.SumSame'. -/
def sumSameUptoCard : Claim7 := { stood := { row := sumSameUptoRow, standIns := [], harness := (true, "74068b05e1a5fd953fd6569ee6ea302716c5df41d49124002dc810a12a38a923"), looks := false }, kinds := [], alts := [], laidByText := true, laidKinds := [.data, .data], laidTests := true, laidLooks := .later }
def SumSameUptoCardSaid : Prop := Claim7.holds Tryd.pinned (.plain (OpenSpec.upto sumSameSpec)) sumSameUptoCard

/-- THE SECOND FORM's CARD OF 'hypogeumlaw01.SumKeyed'. -/
def sumKeyedUptoCard : Claim7 := { stood := { row := sumKeyedUptoRow, standIns := [], harness := (true, "74068b05e1a5fd953fd6569ee6ea302716c5df41d49124002dc810a12a38a923"), looks := false }, kinds := [], alts := [], laidByText := true, laidKinds := [.data, .data], laidTests := true, laidLooks := .later }
def SumKeyedUptoCardSaid : Prop := Claim7.holds Tryd.pinned (.plain (OpenSpec.upto sumKeyedSpec)) sumKeyedUptoCard

/-- THE SECOND FORM's CARD OF 'hypogeumlaw01.SumMixes'. -/
def sumMixesUptoCard : Claim7 := { stood := { row := sumMixesUptoRow, standIns := [], harness := (true, "74068b05e1a5fd953fd6569ee6ea302716c5df41d49124002dc810a12a38a923"), looks := false }, kinds := [], alts := [], laidByText := true, laidKinds := [.data, .data], laidTests := true, laidLooks := .later }
def SumMixesUptoCardSaid : Prop := Claim7.holds Tryd.pinned (.plain (OpenSpec.upto sumMixesSpec)) sumMixesUptoCard

/-- THE SECOND FORM's CARD OF 'hypogeumlaw01.SumStretches'. -/
def sumStretchesUptoCard : Claim7 := { stood := { row := sumStretchesUptoRow, standIns := [], harness := (true, "74068b05e1a5fd953fd6569ee6ea302716c5df41d49124002dc810a12a38a923"), looks := false }, kinds := [], alts := [], laidByText := true, laidKinds := [.data, .data], laidTests := true, laidLooks := .later }
def SumStretchesUptoCardSaid : Prop := Claim7.holds Tryd.pinned (.plain (OpenSpec.upto sumStretchesSpec)) sumStretchesUptoCard

/-- THE SECOND FORM's CARD OF 'hypogeumlaw01.SumLeaves'. -/
def sumLeavesUptoCard : Claim7 := { stood := { row := sumLeavesUptoRow, standIns := [], harness := (true, "74068b05e1a5fd953fd6569ee6ea302716c5df41d49124002dc810a12a38a923"), looks := false }, kinds := [], alts := [], laidByText := true, laidKinds := [.data, .data], laidTests := true, laidLooks := .later }
def SumLeavesUptoCardSaid : Prop := Claim7.holds Tryd.pinned (.plain (OpenSpec.upto sumLeavesSpec)) sumLeavesUptoCard

/-- THE SECOND FORM's CARD OF 'hypogeumlaw01.SumTexts'. -/
def sumTextsUptoCard : Claim7 := { stood := { row := sumTextsUptoRow, standIns := [], harness := (true, "74068b05e1a5fd953fd6569ee6ea302716c5df41d49124002dc810a12a38a923"), looks := false }, kinds := [], alts := [], laidByText := true, laidKinds := [.data, .data], laidTests := true, laidLooks := .later }
def SumTextsUptoCardSaid : Prop := Claim7.holds Tryd.pinned (.plain (OpenSpec.upto sumTextsSpec)) sumTextsUptoCard

/-- THE SECOND FORM's CARD OF 'hypogeumlaw11.KeyMakes'. -/
def keyMakesUptoCard : Claim7 := { stood := { row := keyMakesUptoRow, standIns := [], harness := (true, "74068b05e1a5fd953fd6569ee6ea302716c5df41d49124002dc810a12a38a923"), looks := false }, kinds := [], alts := [], laidByText := true, laidKinds := [.data, .data], laidTests := true, laidLooks := .later }
def KeyMakesUptoCardSaid : Prop := Claim7.holds Tryd.pinned (.plain (OpenSpec.upto keyMakesSpec)) keyMakesUptoCard

/-- THE SECOND FORM's CARD OF 'hypogeumlaw11.KeyIds'. -/
def keyIdsUptoCard : Claim7 := { stood := { row := keyIdsUptoRow, standIns := [], harness := (true, "74068b05e1a5fd953fd6569ee6ea302716c5df41d49124002dc810a12a38a923"), looks := false }, kinds := [], alts := [], laidByText := true, laidKinds := [.data, .data], laidTests := true, laidLooks := .later }
def KeyIdsUptoCardSaid : Prop := Claim7.holds Tryd.pinned (.plain (OpenSpec.upto keyIdsSpec)) keyIdsUptoCard

/-- THE SECOND FORM's CARD OF 'hypogeumtop.HypogeumPieces'. -/
def hypogeumPiecesUptoCard : Claim7 := { stood := { row := hypogeumPiecesUptoRow, standIns := [], harness := (true, "74068b05e1a5fd953fd6569ee6ea302716c5df41d49124002dc810a12a38a923"), looks := false }, kinds := [], alts := [], laidByText := true, laidKinds := [.data, .data], laidTests := true, laidLooks := .later }
def HypogeumPiecesUptoCardSaid : Prop := Claim7.holds Tryd.pinned (.plain (OpenSpec.upto hypogeumPiecesSpec)) hypogeumPiecesUptoCard

/-- THE SECOND FORM's CARD OF 'hypogeumtop.HypogeumKnife'. -/
def hypogeumKnifeUptoCard : Claim7 := { stood := { row := hypogeumKnifeUptoRow, standIns := [], harness := (true, "74068b05e1a5fd953fd6569ee6ea302716c5df41d49124002dc810a12a38a923"), looks := false }, kinds := [], alts := [], laidByText := true, laidKinds := [.data, .data], laidTests := true, laidLooks := .later }
def HypogeumKnifeUptoCardSaid : Prop := Claim7.holds Tryd.pinned (.plain (OpenSpec.upto hypogeumKnifeSpec)) hypogeumKnifeUptoCard
end Rows
end Go.Proofs.YtcdbffgmgfblkaaDoor
