/-
  DERIVED. GIVEN WITH THE SEED: THE CARDS: each row of YtfccpencgengaaaDoorRows.lean that lists a variable, with what it lists TIED to the program's text (the seventh form; the later family's looks); each row that meets fmt, with fmt's text TOLD by the authors' own Lean function (tested against real Go, not proved from fmt's source: count such statements apart). THE CARD IS WHAT COUNTS. Prove the row's statement (the work); the ties are given (YtfccpencgengaaaDoorTie.lean); close each card by the builder's one call (the guide's Derived/Test/ToyasCard.lean, 'card_holds'). Laid BY PROGRAM, IN A SANDBOX (cutbox-door.mjs). By AI agents, Wed Nov 11 2026. No macro, syntax, notation, axiom, sorry.
-/
import Derived.Test.YtfccpencgengaaaDoorRows
import GoSem.ClaimSeven
namespace Go.Proofs.YtfccpencgengaaaDoor
namespace Rows

/-- THE TIED CARD OF 'laws.FnExactTwoConnectedIn'. -/
def fnExactTwoConnectedInCard : Claim7 := { stood := { row := fnExactTwoConnectedInRow, standIns := [], harness := (true, "44d3ed0e4e8827861705c251d9709da0c15f587eb791543115971e88f8faad58"), looks := false }, kinds := [], alts := [], laidByText := true, laidKinds := [.data], laidTests := true, laidLooks := .later }
def FnExactTwoConnectedInCardSaid : Prop := Claim7.holds Tryd.pinned (.plain (OpenSpec.ofChange fnExactTwoConnectedInSpec)) fnExactTwoConnectedInCard

/-- THE TIED CARD OF 'laws.FnExactCographIn'. -/
def fnExactCographInCard : Claim7 := { stood := { row := fnExactCographInRow, standIns := [], harness := (true, "44d3ed0e4e8827861705c251d9709da0c15f587eb791543115971e88f8faad58"), looks := false }, kinds := [], alts := [], laidByText := true, laidKinds := [.data], laidTests := true, laidLooks := .later }
def FnExactCographInCardSaid : Prop := Claim7.holds Tryd.pinned (.plain (OpenSpec.ofChange fnExactCographInSpec)) fnExactCographInCard

/-- THE TIED CARD OF 'laws.FnExactDistancesKept'. -/
def fnExactDistancesKeptCard : Claim7 := { stood := { row := fnExactDistancesKeptRow, standIns := [], harness := (true, "44d3ed0e4e8827861705c251d9709da0c15f587eb791543115971e88f8faad58"), looks := false }, kinds := [], alts := [], laidByText := true, laidKinds := [.data], laidTests := true, laidLooks := .later }
def FnExactDistancesKeptCardSaid : Prop := Claim7.holds Tryd.pinned (.plain (OpenSpec.ofChange fnExactDistancesKeptSpec)) fnExactDistancesKeptCard

/-- THE TIED CARD OF 'laws.FnExactSeriesIn'. -/
def fnExactSeriesInCard : Claim7 := { stood := { row := fnExactSeriesInRow, standIns := [], harness := (true, "44d3ed0e4e8827861705c251d9709da0c15f587eb791543115971e88f8faad58"), looks := false }, kinds := [], alts := [], laidByText := true, laidKinds := [.data], laidTests := true, laidLooks := .later }
def FnExactSeriesInCardSaid : Prop := Claim7.holds Tryd.pinned (.plain (OpenSpec.ofChange fnExactSeriesInSpec)) fnExactSeriesInCard

/-- THE TIED CARD OF 'laws.FnExactFoldsOk'. -/
def fnExactFoldsOkCard : Claim7 := { stood := { row := fnExactFoldsOkRow, standIns := [], harness := (true, "44d3ed0e4e8827861705c251d9709da0c15f587eb791543115971e88f8faad58"), looks := false }, kinds := [], alts := [], laidByText := true, laidKinds := [.data], laidTests := true, laidLooks := .later }
def FnExactFoldsOkCardSaid : Prop := Claim7.holds Tryd.pinned (.plain (OpenSpec.ofChange fnExactFoldsOkSpec)) fnExactFoldsOkCard

/-- THE TIED CARD OF 'laws.FnExactModelWord'. -/
def fnExactModelWordCard : Claim7 := { stood := { row := fnExactModelWordRow, standIns := [], harness := (true, "44d3ed0e4e8827861705c251d9709da0c15f587eb791543115971e88f8faad58"), looks := false }, kinds := [], alts := [], laidByText := true, laidKinds := [.data], laidTests := true, laidLooks := .later }
def FnExactModelWordCardSaid : Prop := Claim7.holds Tryd.pinned (.plain (OpenSpec.ofChange fnExactModelWordSpec)) fnExactModelWordCard

/-- THE TIED CARD OF 'laws.FnExactTurnedTree'. -/
def fnExactTurnedTreeCard : Claim7 := { stood := { row := fnExactTurnedTreeRow, standIns := [], harness := (true, "44d3ed0e4e8827861705c251d9709da0c15f587eb791543115971e88f8faad58"), looks := false }, kinds := [], alts := [], laidByText := true, laidKinds := [.data], laidTests := true, laidLooks := .later }
def FnExactTurnedTreeCardSaid : Prop := Claim7.holds Tryd.pinned (.plain (OpenSpec.ofChange fnExactTurnedTreeSpec)) fnExactTurnedTreeCard

/-- THE TIED CARD OF 'laws.FnExactCoTree'. -/
def fnExactCoTreeCard : Claim7 := { stood := { row := fnExactCoTreeRow, standIns := [], harness := (true, "44d3ed0e4e8827861705c251d9709da0c15f587eb791543115971e88f8faad58"), looks := false }, kinds := [], alts := [], laidByText := true, laidKinds := [.data], laidTests := true, laidLooks := .later }
def FnExactCoTreeCardSaid : Prop := Claim7.holds Tryd.pinned (.plain (OpenSpec.ofChange fnExactCoTreeSpec)) fnExactCoTreeCard

/-- THE SECOND FORM's CARD OF 'laws.FnExactTwoConnectedIn'. -/
def fnExactTwoConnectedInUptoCard : Claim7 := { stood := { row := fnExactTwoConnectedInUptoRow, standIns := [], harness := (true, "44d3ed0e4e8827861705c251d9709da0c15f587eb791543115971e88f8faad58"), looks := false }, kinds := [], alts := [], laidByText := true, laidKinds := [.data], laidTests := true, laidLooks := .later }
def FnExactTwoConnectedInUptoCardSaid : Prop := Claim7.holds Tryd.pinned (.plain (OpenSpec.upto fnExactTwoConnectedInSpec)) fnExactTwoConnectedInUptoCard

/-- THE SECOND FORM's CARD OF 'laws.FnExactCographIn'. -/
def fnExactCographInUptoCard : Claim7 := { stood := { row := fnExactCographInUptoRow, standIns := [], harness := (true, "44d3ed0e4e8827861705c251d9709da0c15f587eb791543115971e88f8faad58"), looks := false }, kinds := [], alts := [], laidByText := true, laidKinds := [.data], laidTests := true, laidLooks := .later }
def FnExactCographInUptoCardSaid : Prop := Claim7.holds Tryd.pinned (.plain (OpenSpec.upto fnExactCographInSpec)) fnExactCographInUptoCard

/-- THE SECOND FORM's CARD OF 'laws.FnExactDistancesKept'. -/
def fnExactDistancesKeptUptoCard : Claim7 := { stood := { row := fnExactDistancesKeptUptoRow, standIns := [], harness := (true, "44d3ed0e4e8827861705c251d9709da0c15f587eb791543115971e88f8faad58"), looks := false }, kinds := [], alts := [], laidByText := true, laidKinds := [.data], laidTests := true, laidLooks := .later }
def FnExactDistancesKeptUptoCardSaid : Prop := Claim7.holds Tryd.pinned (.plain (OpenSpec.upto fnExactDistancesKeptSpec)) fnExactDistancesKeptUptoCard

/-- THE SECOND FORM's CARD OF 'laws.FnExactSeriesIn'. -/
def fnExactSeriesInUptoCard : Claim7 := { stood := { row := fnExactSeriesInUptoRow, standIns := [], harness := (true, "44d3ed0e4e8827861705c251d9709da0c15f587eb791543115971e88f8faad58"), looks := false }, kinds := [], alts := [], laidByText := true, laidKinds := [.data], laidTests := true, laidLooks := .later }
def FnExactSeriesInUptoCardSaid : Prop := Claim7.holds Tryd.pinned (.plain (OpenSpec.upto fnExactSeriesInSpec)) fnExactSeriesInUptoCard

/-- THE SECOND FORM's CARD OF 'laws.FnExactFoldsOk'. -/
def fnExactFoldsOkUptoCard : Claim7 := { stood := { row := fnExactFoldsOkUptoRow, standIns := [], harness := (true, "44d3ed0e4e8827861705c251d9709da0c15f587eb791543115971e88f8faad58"), looks := false }, kinds := [], alts := [], laidByText := true, laidKinds := [.data], laidTests := true, laidLooks := .later }
def FnExactFoldsOkUptoCardSaid : Prop := Claim7.holds Tryd.pinned (.plain (OpenSpec.upto fnExactFoldsOkSpec)) fnExactFoldsOkUptoCard

/-- THE SECOND FORM's CARD OF 'laws.FnExactModelWord'. -/
def fnExactModelWordUptoCard : Claim7 := { stood := { row := fnExactModelWordUptoRow, standIns := [], harness := (true, "44d3ed0e4e8827861705c251d9709da0c15f587eb791543115971e88f8faad58"), looks := false }, kinds := [], alts := [], laidByText := true, laidKinds := [.data], laidTests := true, laidLooks := .later }
def FnExactModelWordUptoCardSaid : Prop := Claim7.holds Tryd.pinned (.plain (OpenSpec.upto fnExactModelWordSpec)) fnExactModelWordUptoCard

/-- THE SECOND FORM's CARD OF 'laws.FnExactTurnedTree'. -/
def fnExactTurnedTreeUptoCard : Claim7 := { stood := { row := fnExactTurnedTreeUptoRow, standIns := [], harness := (true, "44d3ed0e4e8827861705c251d9709da0c15f587eb791543115971e88f8faad58"), looks := false }, kinds := [], alts := [], laidByText := true, laidKinds := [.data], laidTests := true, laidLooks := .later }
def FnExactTurnedTreeUptoCardSaid : Prop := Claim7.holds Tryd.pinned (.plain (OpenSpec.upto fnExactTurnedTreeSpec)) fnExactTurnedTreeUptoCard

/-- THE SECOND FORM's CARD OF 'laws.FnExactCoTree'. -/
def fnExactCoTreeUptoCard : Claim7 := { stood := { row := fnExactCoTreeUptoRow, standIns := [], harness := (true, "44d3ed0e4e8827861705c251d9709da0c15f587eb791543115971e88f8faad58"), looks := false }, kinds := [], alts := [], laidByText := true, laidKinds := [.data], laidTests := true, laidLooks := .later }
def FnExactCoTreeUptoCardSaid : Prop := Claim7.holds Tryd.pinned (.plain (OpenSpec.upto fnExactCoTreeSpec)) fnExactCoTreeUptoCard
end Rows
end Go.Proofs.YtfccpencgengaaaDoor
