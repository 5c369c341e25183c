/-
  DERIVED. GIVEN WITH THE SEED: THE CARDS: each row of YtpdlcnpmljfclaaDoorRows.lean that lists a variable, with what it lists TIED to the program's text (the seventh form; the later family's looks); each row that meets fmt, with fmt's text TOLD by the authors' own Lean function (tested against real Go, not proved from fmt's source: count such statements apart). THE CARD IS WHAT COUNTS. Prove the row's statement (the work); the ties are given (YtpdlcnpmljfclaaDoorTie.lean); close each card by the builder's one call (the guide's Derived/Test/ToyasCard.lean, 'card_holds'). Laid BY PROGRAM, IN A SANDBOX (cutbox-door.mjs). By AI agents, Wed Nov 11 2026. No macro, syntax, notation, axiom, sorry.
-/
import Derived.Test.YtpdlcnpmljfclaaDoorRows
import GoSem.ClaimSeven
namespace Go.Proofs.YtpdlcnpmljfclaaDoor
namespace Rows

/-- THE TIED CARD OF 'laws.FnExactModTreeOk'. -/
def fnExactModTreeOkCard : Claim7 := { stood := { row := fnExactModTreeOkRow, standIns := [], harness := (true, "19302f66858cca290184672f8c5c68f982ca5eea7e78dc2a900a28bb28934b5f"), looks := false }, kinds := [], alts := [], laidByText := true, laidKinds := [.data], laidTests := true, laidLooks := .later }
def FnExactModTreeOkCardSaid : Prop := Claim7.holds Tryd.pinned (.plain (OpenSpec.ofChange fnExactModTreeOkSpec)) fnExactModTreeOkCard

/-- THE TIED CARD OF 'laws.FnExactIntervalIn'. -/
def fnExactIntervalInCard : Claim7 := { stood := { row := fnExactIntervalInRow, standIns := [], harness := (true, "19302f66858cca290184672f8c5c68f982ca5eea7e78dc2a900a28bb28934b5f"), looks := false }, kinds := [], alts := [], laidByText := true, laidKinds := [.data], laidTests := true, laidLooks := .later }
def FnExactIntervalInCardSaid : Prop := Claim7.holds Tryd.pinned (.plain (OpenSpec.ofChange fnExactIntervalInSpec)) fnExactIntervalInCard

/-- THE TIED CARD OF 'laws.FnExactCliqueOrder'. -/
def fnExactCliqueOrderCard : Claim7 := { stood := { row := fnExactCliqueOrderRow, standIns := [], harness := (true, "19302f66858cca290184672f8c5c68f982ca5eea7e78dc2a900a28bb28934b5f"), looks := false }, kinds := [], alts := [], laidByText := true, laidKinds := [.data], laidTests := true, laidLooks := .later }
def FnExactCliqueOrderCardSaid : Prop := Claim7.holds Tryd.pinned (.plain (OpenSpec.ofChange fnExactCliqueOrderSpec)) fnExactCliqueOrderCard

/-- THE TIED CARD OF 'laws.FnExactIntervalsOf'. -/
def fnExactIntervalsOfCard : Claim7 := { stood := { row := fnExactIntervalsOfRow, standIns := [], harness := (true, "19302f66858cca290184672f8c5c68f982ca5eea7e78dc2a900a28bb28934b5f"), looks := false }, kinds := [], alts := [], laidByText := true, laidKinds := [.data], laidTests := true, laidLooks := .later }
def FnExactIntervalsOfCardSaid : Prop := Claim7.holds Tryd.pinned (.plain (OpenSpec.ofChange fnExactIntervalsOfSpec)) fnExactIntervalsOfCard

/-- THE TIED CARD OF 'laws.FnExactWhyNotPerm'. -/
def fnExactWhyNotPermCard : Claim7 := { stood := { row := fnExactWhyNotPermRow, standIns := [], harness := (true, "19302f66858cca290184672f8c5c68f982ca5eea7e78dc2a900a28bb28934b5f"), looks := false }, kinds := [], alts := [], laidByText := true, laidKinds := [.data], laidTests := true, laidLooks := .later }
def FnExactWhyNotPermCardSaid : Prop := Claim7.holds Tryd.pinned (.plain (OpenSpec.ofChange fnExactWhyNotPermSpec)) fnExactWhyNotPermCard

/-- THE SECOND FORM's CARD OF 'laws.FnExactModTreeOk'. -/
def fnExactModTreeOkUptoCard : Claim7 := { stood := { row := fnExactModTreeOkUptoRow, standIns := [], harness := (true, "19302f66858cca290184672f8c5c68f982ca5eea7e78dc2a900a28bb28934b5f"), looks := false }, kinds := [], alts := [], laidByText := true, laidKinds := [.data], laidTests := true, laidLooks := .later }
def FnExactModTreeOkUptoCardSaid : Prop := Claim7.holds Tryd.pinned (.plain (OpenSpec.upto fnExactModTreeOkSpec)) fnExactModTreeOkUptoCard

/-- THE SECOND FORM's CARD OF 'laws.FnExactIntervalIn'. -/
def fnExactIntervalInUptoCard : Claim7 := { stood := { row := fnExactIntervalInUptoRow, standIns := [], harness := (true, "19302f66858cca290184672f8c5c68f982ca5eea7e78dc2a900a28bb28934b5f"), looks := false }, kinds := [], alts := [], laidByText := true, laidKinds := [.data], laidTests := true, laidLooks := .later }
def FnExactIntervalInUptoCardSaid : Prop := Claim7.holds Tryd.pinned (.plain (OpenSpec.upto fnExactIntervalInSpec)) fnExactIntervalInUptoCard

/-- THE SECOND FORM's CARD OF 'laws.FnExactCliqueOrder'. -/
def fnExactCliqueOrderUptoCard : Claim7 := { stood := { row := fnExactCliqueOrderUptoRow, standIns := [], harness := (true, "19302f66858cca290184672f8c5c68f982ca5eea7e78dc2a900a28bb28934b5f"), looks := false }, kinds := [], alts := [], laidByText := true, laidKinds := [.data], laidTests := true, laidLooks := .later }
def FnExactCliqueOrderUptoCardSaid : Prop := Claim7.holds Tryd.pinned (.plain (OpenSpec.upto fnExactCliqueOrderSpec)) fnExactCliqueOrderUptoCard

/-- THE SECOND FORM's CARD OF 'laws.FnExactIntervalsOf'. -/
def fnExactIntervalsOfUptoCard : Claim7 := { stood := { row := fnExactIntervalsOfUptoRow, standIns := [], harness := (true, "19302f66858cca290184672f8c5c68f982ca5eea7e78dc2a900a28bb28934b5f"), looks := false }, kinds := [], alts := [], laidByText := true, laidKinds := [.data], laidTests := true, laidLooks := .later }
def FnExactIntervalsOfUptoCardSaid : Prop := Claim7.holds Tryd.pinned (.plain (OpenSpec.upto fnExactIntervalsOfSpec)) fnExactIntervalsOfUptoCard

/-- THE SECOND FORM's CARD OF 'laws.FnExactWhyNotPerm'. -/
def fnExactWhyNotPermUptoCard : Claim7 := { stood := { row := fnExactWhyNotPermUptoRow, standIns := [], harness := (true, "19302f66858cca290184672f8c5c68f982ca5eea7e78dc2a900a28bb28934b5f"), looks := false }, kinds := [], alts := [], laidByText := true, laidKinds := [.data], laidTests := true, laidLooks := .later }
def FnExactWhyNotPermUptoCardSaid : Prop := Claim7.holds Tryd.pinned (.plain (OpenSpec.upto fnExactWhyNotPermSpec)) fnExactWhyNotPermUptoCard
end Rows
end Go.Proofs.YtpdlcnpmljfclaaDoor
