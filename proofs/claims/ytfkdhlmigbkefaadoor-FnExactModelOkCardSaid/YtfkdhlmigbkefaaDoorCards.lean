/-
  DERIVED. GIVEN WITH THE SEED: THE CARDS: each row of YtfkdhlmigbkefaaDoorRows.lean that lists a variable, with what it lists TIED to the program's text (the seventh form; the later family's looks); each row that meets fmt, with fmt's text TOLD by the authors' own Lean function (tested against real Go, not proved from fmt's source: count such statements apart). THE CARD IS WHAT COUNTS. Prove the row's statement (the work); the ties are given (YtfkdhlmigbkefaaDoorTie.lean); close each card by the builder's one call (the guide's Derived/Test/ToyasCard.lean, 'card_holds'). Laid BY PROGRAM, IN A SANDBOX (cutbox-door.mjs). By AI agents, Wed Nov 11 2026. No macro, syntax, notation, axiom, sorry.
-/
import Derived.Test.YtfkdhlmigbkefaaDoorRows
import GoSem.ClaimSeven
namespace Go.Proofs.YtfkdhlmigbkefaaDoor
namespace Rows

/-- THE TIED CARD OF 'laws.FnExactTreeWidth'. -/
def fnExactTreeWidthCard : Claim7 := { stood := { row := fnExactTreeWidthRow, standIns := [], harness := (true, "ccaab562d9597020ecd0ed76baf2d88c5745f62837710ee3283be235f06c8d31"), looks := false }, kinds := [], alts := [], laidByText := true, laidKinds := [.data], laidTests := true, laidLooks := .later }
def FnExactTreeWidthCardSaid : Prop := Claim7.holds Tryd.pinned (.plain (OpenSpec.ofChange fnExactTreeWidthSpec)) fnExactTreeWidthCard

/-- THE TIED CARD OF 'laws.FnExactWidthFrom'. -/
def fnExactWidthFromCard : Claim7 := { stood := { row := fnExactWidthFromRow, standIns := [], harness := (true, "ccaab562d9597020ecd0ed76baf2d88c5745f62837710ee3283be235f06c8d31"), looks := false }, kinds := [], alts := [], laidByText := true, laidKinds := [.data], laidTests := true, laidLooks := .later }
def FnExactWidthFromCardSaid : Prop := Claim7.holds Tryd.pinned (.plain (OpenSpec.ofChange fnExactWidthFromSpec)) fnExactWidthFromCard

/-- THE TIED CARD OF 'laws.FnExactWidthAtMost'. -/
def fnExactWidthAtMostCard : Claim7 := { stood := { row := fnExactWidthAtMostRow, standIns := [], harness := (true, "ccaab562d9597020ecd0ed76baf2d88c5745f62837710ee3283be235f06c8d31"), looks := false }, kinds := [], alts := [], laidByText := true, laidKinds := [.data], laidTests := true, laidLooks := .later }
def FnExactWidthAtMostCardSaid : Prop := Claim7.holds Tryd.pinned (.plain (OpenSpec.ofChange fnExactWidthAtMostSpec)) fnExactWidthAtMostCard

/-- THE TIED CARD OF 'laws.FnExactBestOrder'. -/
def fnExactBestOrderCard : Claim7 := { stood := { row := fnExactBestOrderRow, standIns := [], harness := (true, "ccaab562d9597020ecd0ed76baf2d88c5745f62837710ee3283be235f06c8d31"), looks := false }, kinds := [], alts := [], laidByText := true, laidKinds := [.data], laidTests := true, laidLooks := .later }
def FnExactBestOrderCardSaid : Prop := Claim7.holds Tryd.pinned (.plain (OpenSpec.ofChange fnExactBestOrderSpec)) fnExactBestOrderCard

/-- THE TIED CARD OF 'laws.FnExactModelOk'. -/
def fnExactModelOkCard : Claim7 := { stood := { row := fnExactModelOkRow, standIns := [], harness := (true, "ccaab562d9597020ecd0ed76baf2d88c5745f62837710ee3283be235f06c8d31"), looks := false }, kinds := [], alts := [], laidByText := true, laidKinds := [.data], laidTests := true, laidLooks := .later }
def FnExactModelOkCardSaid : Prop := Claim7.holds Tryd.pinned (.plain (OpenSpec.ofChange fnExactModelOkSpec)) fnExactModelOkCard

/-- THE SECOND FORM's CARD OF 'laws.FnExactTreeWidth'. -/
def fnExactTreeWidthUptoCard : Claim7 := { stood := { row := fnExactTreeWidthUptoRow, standIns := [], harness := (true, "ccaab562d9597020ecd0ed76baf2d88c5745f62837710ee3283be235f06c8d31"), looks := false }, kinds := [], alts := [], laidByText := true, laidKinds := [.data], laidTests := true, laidLooks := .later }
def FnExactTreeWidthUptoCardSaid : Prop := Claim7.holds Tryd.pinned (.plain (OpenSpec.upto fnExactTreeWidthSpec)) fnExactTreeWidthUptoCard

/-- THE SECOND FORM's CARD OF 'laws.FnExactWidthFrom'. -/
def fnExactWidthFromUptoCard : Claim7 := { stood := { row := fnExactWidthFromUptoRow, standIns := [], harness := (true, "ccaab562d9597020ecd0ed76baf2d88c5745f62837710ee3283be235f06c8d31"), looks := false }, kinds := [], alts := [], laidByText := true, laidKinds := [.data], laidTests := true, laidLooks := .later }
def FnExactWidthFromUptoCardSaid : Prop := Claim7.holds Tryd.pinned (.plain (OpenSpec.upto fnExactWidthFromSpec)) fnExactWidthFromUptoCard

/-- THE SECOND FORM's CARD OF 'laws.FnExactWidthAtMost'. -/
def fnExactWidthAtMostUptoCard : Claim7 := { stood := { row := fnExactWidthAtMostUptoRow, standIns := [], harness := (true, "ccaab562d9597020ecd0ed76baf2d88c5745f62837710ee3283be235f06c8d31"), looks := false }, kinds := [], alts := [], laidByText := true, laidKinds := [.data], laidTests := true, laidLooks := .later }
def FnExactWidthAtMostUptoCardSaid : Prop := Claim7.holds Tryd.pinned (.plain (OpenSpec.upto fnExactWidthAtMostSpec)) fnExactWidthAtMostUptoCard

/-- THE SECOND FORM's CARD OF 'laws.FnExactBestOrder'. -/
def fnExactBestOrderUptoCard : Claim7 := { stood := { row := fnExactBestOrderUptoRow, standIns := [], harness := (true, "ccaab562d9597020ecd0ed76baf2d88c5745f62837710ee3283be235f06c8d31"), looks := false }, kinds := [], alts := [], laidByText := true, laidKinds := [.data], laidTests := true, laidLooks := .later }
def FnExactBestOrderUptoCardSaid : Prop := Claim7.holds Tryd.pinned (.plain (OpenSpec.upto fnExactBestOrderSpec)) fnExactBestOrderUptoCard

/-- THE SECOND FORM's CARD OF 'laws.FnExactModelOk'. -/
def fnExactModelOkUptoCard : Claim7 := { stood := { row := fnExactModelOkUptoRow, standIns := [], harness := (true, "ccaab562d9597020ecd0ed76baf2d88c5745f62837710ee3283be235f06c8d31"), looks := false }, kinds := [], alts := [], laidByText := true, laidKinds := [.data], laidTests := true, laidLooks := .later }
def FnExactModelOkUptoCardSaid : Prop := Claim7.holds Tryd.pinned (.plain (OpenSpec.upto fnExactModelOkSpec)) fnExactModelOkUptoCard
end Rows
end Go.Proofs.YtfkdhlmigbkefaaDoor
