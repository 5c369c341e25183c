/-
  DERIVED. GIVEN WITH THE SEED: THE CARDS: each row of YtklnjpdpinccoaaDoorRows.lean that lists a variable, with what it lists TIED to the program's text (the seventh form; the later family's looks); each row that meets fmt, with fmt's text TOLD by the authors' own Lean function (tested against real Go, not proved from fmt's source: count such statements apart). THE CARD IS WHAT COUNTS. Prove the row's statement (the work); the ties are given (YtklnjpdpinccoaaDoorTie.lean); close each card by the builder's one call (the guide's Derived/Test/ToyasCard.lean, 'card_holds'). Laid BY PROGRAM, IN A SANDBOX (cutbox-door.mjs). By AI agents, Wed Nov 11 2026. No macro, syntax, notation, axiom, sorry.
-/
import Derived.Test.YtklnjpdpinccoaaDoorRows
import GoSem.ClaimSeven
namespace Go.Proofs.YtklnjpdpinccoaaDoor
namespace Rows

/-- THE TIED CARD OF 'laws.FnExactBridgesOf'. -/
def fnExactBridgesOfCard : Claim7 := { stood := { row := fnExactBridgesOfRow, standIns := [], harness := (true, "ccb84e4eb2f6bd3759dc159c2cac40dc48f439601cd8fa2a40fef54239868e27"), looks := false }, kinds := [], alts := [], laidByText := true, laidKinds := [.data], laidTests := true, laidLooks := .later }
def FnExactBridgesOfCardSaid : Prop := Claim7.holds Tryd.pinned (.plain (OpenSpec.ofChange fnExactBridgesOfSpec)) fnExactBridgesOfCard

/-- THE TIED CARD OF 'laws.FnExactStrongIn'. -/
def fnExactStrongInCard : Claim7 := { stood := { row := fnExactStrongInRow, standIns := [], harness := (true, "ccb84e4eb2f6bd3759dc159c2cac40dc48f439601cd8fa2a40fef54239868e27"), looks := false }, kinds := [], alts := [], laidByText := true, laidKinds := [.data], laidTests := true, laidLooks := .later }
def FnExactStrongInCardSaid : Prop := Claim7.holds Tryd.pinned (.plain (OpenSpec.ofChange fnExactStrongInSpec)) fnExactStrongInCard

/-- THE TIED CARD OF 'laws.FnExactBranchEdges'. -/
def fnExactBranchEdgesCard : Claim7 := { stood := { row := fnExactBranchEdgesRow, standIns := [], harness := (true, "ccb84e4eb2f6bd3759dc159c2cac40dc48f439601cd8fa2a40fef54239868e27"), looks := false }, kinds := [], alts := [], laidByText := true, laidKinds := [.data], laidTests := true, laidLooks := .later }
def FnExactBranchEdgesCardSaid : Prop := Claim7.holds Tryd.pinned (.plain (OpenSpec.ofChange fnExactBranchEdgesSpec)) fnExactBranchEdgesCard

/-- THE TIED CARD OF 'laws.FnExactModularTree'. -/
def fnExactModularTreeCard : Claim7 := { stood := { row := fnExactModularTreeRow, standIns := [], harness := (true, "ccb84e4eb2f6bd3759dc159c2cac40dc48f439601cd8fa2a40fef54239868e27"), looks := false }, kinds := [], alts := [], laidByText := true, laidKinds := [.data], laidTests := true, laidLooks := .later }
def FnExactModularTreeCardSaid : Prop := Claim7.holds Tryd.pinned (.plain (OpenSpec.ofChange fnExactModularTreeSpec)) fnExactModularTreeCard

/-- THE TIED CARD OF 'laws.FnExactModTreeOk'. -/
def fnExactModTreeOkCard : Claim7 := { stood := { row := fnExactModTreeOkRow, standIns := [], harness := (true, "ccb84e4eb2f6bd3759dc159c2cac40dc48f439601cd8fa2a40fef54239868e27"), looks := false }, kinds := [], alts := [], laidByText := true, laidKinds := [.data], laidTests := true, laidLooks := .later }
def FnExactModTreeOkCardSaid : Prop := Claim7.holds Tryd.pinned (.plain (OpenSpec.ofChange fnExactModTreeOkSpec)) fnExactModTreeOkCard

/-- THE TIED CARD OF 'laws.FnExactBlocksAt'. -/
def fnExactBlocksAtCard : Claim7 := { stood := { row := fnExactBlocksAtRow, standIns := [], harness := (true, "ccb84e4eb2f6bd3759dc159c2cac40dc48f439601cd8fa2a40fef54239868e27"), looks := false }, kinds := [], alts := [], laidByText := true, laidKinds := [.data], laidTests := true, laidLooks := .later }
def FnExactBlocksAtCardSaid : Prop := Claim7.holds Tryd.pinned (.plain (OpenSpec.ofChange fnExactBlocksAtSpec)) fnExactBlocksAtCard

/-- THE TIED CARD OF 'laws.FnExactChordlessLoop'. -/
def fnExactChordlessLoopCard : Claim7 := { stood := { row := fnExactChordlessLoopRow, standIns := [], harness := (true, "ccb84e4eb2f6bd3759dc159c2cac40dc48f439601cd8fa2a40fef54239868e27"), looks := false }, kinds := [], alts := [], laidByText := true, laidKinds := [.data], laidTests := true, laidLooks := .later }
def FnExactChordlessLoopCardSaid : Prop := Claim7.holds Tryd.pinned (.plain (OpenSpec.ofChange fnExactChordlessLoopSpec)) fnExactChordlessLoopCard

/-- THE SECOND FORM's CARD OF 'laws.FnExactBridgesOf'. -/
def fnExactBridgesOfUptoCard : Claim7 := { stood := { row := fnExactBridgesOfUptoRow, standIns := [], harness := (true, "ccb84e4eb2f6bd3759dc159c2cac40dc48f439601cd8fa2a40fef54239868e27"), looks := false }, kinds := [], alts := [], laidByText := true, laidKinds := [.data], laidTests := true, laidLooks := .later }
def FnExactBridgesOfUptoCardSaid : Prop := Claim7.holds Tryd.pinned (.plain (OpenSpec.upto fnExactBridgesOfSpec)) fnExactBridgesOfUptoCard

/-- THE SECOND FORM's CARD OF 'laws.FnExactStrongIn'. -/
def fnExactStrongInUptoCard : Claim7 := { stood := { row := fnExactStrongInUptoRow, standIns := [], harness := (true, "ccb84e4eb2f6bd3759dc159c2cac40dc48f439601cd8fa2a40fef54239868e27"), looks := false }, kinds := [], alts := [], laidByText := true, laidKinds := [.data], laidTests := true, laidLooks := .later }
def FnExactStrongInUptoCardSaid : Prop := Claim7.holds Tryd.pinned (.plain (OpenSpec.upto fnExactStrongInSpec)) fnExactStrongInUptoCard

/-- THE SECOND FORM's CARD OF 'laws.FnExactBranchEdges'. -/
def fnExactBranchEdgesUptoCard : Claim7 := { stood := { row := fnExactBranchEdgesUptoRow, standIns := [], harness := (true, "ccb84e4eb2f6bd3759dc159c2cac40dc48f439601cd8fa2a40fef54239868e27"), looks := false }, kinds := [], alts := [], laidByText := true, laidKinds := [.data], laidTests := true, laidLooks := .later }
def FnExactBranchEdgesUptoCardSaid : Prop := Claim7.holds Tryd.pinned (.plain (OpenSpec.upto fnExactBranchEdgesSpec)) fnExactBranchEdgesUptoCard

/-- THE SECOND FORM's CARD OF 'laws.FnExactModularTree'. -/
def fnExactModularTreeUptoCard : Claim7 := { stood := { row := fnExactModularTreeUptoRow, standIns := [], harness := (true, "ccb84e4eb2f6bd3759dc159c2cac40dc48f439601cd8fa2a40fef54239868e27"), looks := false }, kinds := [], alts := [], laidByText := true, laidKinds := [.data], laidTests := true, laidLooks := .later }
def FnExactModularTreeUptoCardSaid : Prop := Claim7.holds Tryd.pinned (.plain (OpenSpec.upto fnExactModularTreeSpec)) fnExactModularTreeUptoCard

/-- THE SECOND FORM's CARD OF 'laws.FnExactModTreeOk'. -/
def fnExactModTreeOkUptoCard : Claim7 := { stood := { row := fnExactModTreeOkUptoRow, standIns := [], harness := (true, "ccb84e4eb2f6bd3759dc159c2cac40dc48f439601cd8fa2a40fef54239868e27"), looks := false }, kinds := [], alts := [], laidByText := true, laidKinds := [.data], laidTests := true, laidLooks := .later }
def FnExactModTreeOkUptoCardSaid : Prop := Claim7.holds Tryd.pinned (.plain (OpenSpec.upto fnExactModTreeOkSpec)) fnExactModTreeOkUptoCard

/-- THE SECOND FORM's CARD OF 'laws.FnExactBlocksAt'. -/
def fnExactBlocksAtUptoCard : Claim7 := { stood := { row := fnExactBlocksAtUptoRow, standIns := [], harness := (true, "ccb84e4eb2f6bd3759dc159c2cac40dc48f439601cd8fa2a40fef54239868e27"), looks := false }, kinds := [], alts := [], laidByText := true, laidKinds := [.data], laidTests := true, laidLooks := .later }
def FnExactBlocksAtUptoCardSaid : Prop := Claim7.holds Tryd.pinned (.plain (OpenSpec.upto fnExactBlocksAtSpec)) fnExactBlocksAtUptoCard

/-- THE SECOND FORM's CARD OF 'laws.FnExactChordlessLoop'. -/
def fnExactChordlessLoopUptoCard : Claim7 := { stood := { row := fnExactChordlessLoopUptoRow, standIns := [], harness := (true, "ccb84e4eb2f6bd3759dc159c2cac40dc48f439601cd8fa2a40fef54239868e27"), looks := false }, kinds := [], alts := [], laidByText := true, laidKinds := [.data], laidTests := true, laidLooks := .later }
def FnExactChordlessLoopUptoCardSaid : Prop := Claim7.holds Tryd.pinned (.plain (OpenSpec.upto fnExactChordlessLoopSpec)) fnExactChordlessLoopUptoCard
end Rows
end Go.Proofs.YtklnjpdpinccoaaDoor
