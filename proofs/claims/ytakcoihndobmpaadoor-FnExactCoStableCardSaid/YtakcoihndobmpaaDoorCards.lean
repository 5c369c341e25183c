/-
  DERIVED. GIVEN WITH THE SEED: THE CARDS: each row of YtakcoihndobmpaaDoorRows.lean that lists a variable, with what it lists TIED to the program's text (the seventh form; the later family's looks); each row that meets fmt, with fmt's text TOLD by the authors' own Lean function (tested against real Go, not proved from fmt's source: count such statements apart). THE CARD IS WHAT COUNTS. Prove the row's statement (the work); the ties are given (YtakcoihndobmpaaDoorTie.lean); close each card by the builder's one call (the guide's Derived/Test/ToyasCard.lean, 'card_holds'). Laid BY PROGRAM, IN A SANDBOX (cutbox-door.mjs). By AI agents, Wed Nov 11 2026. No macro, syntax, notation, axiom, sorry.
-/
import Derived.Test.YtakcoihndobmpaaDoorRows
import GoSem.ClaimSeven
namespace Go.Proofs.YtakcoihndobmpaaDoor
namespace Rows

/-- THE TIED CARD OF 'laws.FnExactPartsOk'. -/
def fnExactPartsOkCard : Claim7 := { stood := { row := fnExactPartsOkRow, standIns := [], harness := (true, "b2b96404f46bff95ea72910dbb85ad5529653fa2fdc7d7676c1ff85bece26720"), looks := false }, kinds := [], alts := [], laidByText := true, laidKinds := [.data], laidTests := true, laidLooks := .later }
def FnExactPartsOkCardSaid : Prop := Claim7.holds Tryd.pinned (.plain (OpenSpec.ofChange fnExactPartsOkSpec)) fnExactPartsOkCard

/-- THE TIED CARD OF 'laws.FnExactModuleIn'. -/
def fnExactModuleInCard : Claim7 := { stood := { row := fnExactModuleInRow, standIns := [], harness := (true, "b2b96404f46bff95ea72910dbb85ad5529653fa2fdc7d7676c1ff85bece26720"), looks := false }, kinds := [], alts := [], laidByText := true, laidKinds := [.data], laidTests := true, laidLooks := .later }
def FnExactModuleInCardSaid : Prop := Claim7.holds Tryd.pinned (.plain (OpenSpec.ofChange fnExactModuleInSpec)) fnExactModuleInCard

/-- THE TIED CARD OF 'laws.FnExactSplitterOf'. -/
def fnExactSplitterOfCard : Claim7 := { stood := { row := fnExactSplitterOfRow, standIns := [], harness := (true, "b2b96404f46bff95ea72910dbb85ad5529653fa2fdc7d7676c1ff85bece26720"), looks := false }, kinds := [], alts := [], laidByText := true, laidKinds := [.data], laidTests := true, laidLooks := .later }
def FnExactSplitterOfCardSaid : Prop := Claim7.holds Tryd.pinned (.plain (OpenSpec.ofChange fnExactSplitterOfSpec)) fnExactSplitterOfCard

/-- THE TIED CARD OF 'laws.FnExactCoTreeOk'. -/
def fnExactCoTreeOkCard : Claim7 := { stood := { row := fnExactCoTreeOkRow, standIns := [], harness := (true, "b2b96404f46bff95ea72910dbb85ad5529653fa2fdc7d7676c1ff85bece26720"), looks := false }, kinds := [], alts := [], laidByText := true, laidKinds := [.data], laidTests := true, laidLooks := .later }
def FnExactCoTreeOkCardSaid : Prop := Claim7.holds Tryd.pinned (.plain (OpenSpec.ofChange fnExactCoTreeOkSpec)) fnExactCoTreeOkCard

/-- THE TIED CARD OF 'laws.FnExactPrimeIn'. -/
def fnExactPrimeInCard : Claim7 := { stood := { row := fnExactPrimeInRow, standIns := [], harness := (true, "b2b96404f46bff95ea72910dbb85ad5529653fa2fdc7d7676c1ff85bece26720"), looks := false }, kinds := [], alts := [], laidByText := true, laidKinds := [.data], laidTests := true, laidLooks := .later }
def FnExactPrimeInCardSaid : Prop := Claim7.holds Tryd.pinned (.plain (OpenSpec.ofChange fnExactPrimeInSpec)) fnExactPrimeInCard

/-- THE TIED CARD OF 'laws.FnExactCoClique'. -/
def fnExactCoCliqueCard : Claim7 := { stood := { row := fnExactCoCliqueRow, standIns := [], harness := (true, "b2b96404f46bff95ea72910dbb85ad5529653fa2fdc7d7676c1ff85bece26720"), looks := false }, kinds := [], alts := [], laidByText := true, laidKinds := [.data], laidTests := true, laidLooks := .later }
def FnExactCoCliqueCardSaid : Prop := Claim7.holds Tryd.pinned (.plain (OpenSpec.ofChange fnExactCoCliqueSpec)) fnExactCoCliqueCard

/-- THE TIED CARD OF 'laws.FnExactCoStable'. -/
def fnExactCoStableCard : Claim7 := { stood := { row := fnExactCoStableRow, standIns := [], harness := (true, "b2b96404f46bff95ea72910dbb85ad5529653fa2fdc7d7676c1ff85bece26720"), looks := false }, kinds := [], alts := [], laidByText := true, laidKinds := [.data], laidTests := true, laidLooks := .later }
def FnExactCoStableCardSaid : Prop := Claim7.holds Tryd.pinned (.plain (OpenSpec.ofChange fnExactCoStableSpec)) fnExactCoStableCard

/-- THE SECOND FORM's CARD OF 'laws.FnExactPartsOk'. -/
def fnExactPartsOkUptoCard : Claim7 := { stood := { row := fnExactPartsOkUptoRow, standIns := [], harness := (true, "b2b96404f46bff95ea72910dbb85ad5529653fa2fdc7d7676c1ff85bece26720"), looks := false }, kinds := [], alts := [], laidByText := true, laidKinds := [.data], laidTests := true, laidLooks := .later }
def FnExactPartsOkUptoCardSaid : Prop := Claim7.holds Tryd.pinned (.plain (OpenSpec.upto fnExactPartsOkSpec)) fnExactPartsOkUptoCard

/-- THE SECOND FORM's CARD OF 'laws.FnExactModuleIn'. -/
def fnExactModuleInUptoCard : Claim7 := { stood := { row := fnExactModuleInUptoRow, standIns := [], harness := (true, "b2b96404f46bff95ea72910dbb85ad5529653fa2fdc7d7676c1ff85bece26720"), looks := false }, kinds := [], alts := [], laidByText := true, laidKinds := [.data], laidTests := true, laidLooks := .later }
def FnExactModuleInUptoCardSaid : Prop := Claim7.holds Tryd.pinned (.plain (OpenSpec.upto fnExactModuleInSpec)) fnExactModuleInUptoCard

/-- THE SECOND FORM's CARD OF 'laws.FnExactSplitterOf'. -/
def fnExactSplitterOfUptoCard : Claim7 := { stood := { row := fnExactSplitterOfUptoRow, standIns := [], harness := (true, "b2b96404f46bff95ea72910dbb85ad5529653fa2fdc7d7676c1ff85bece26720"), looks := false }, kinds := [], alts := [], laidByText := true, laidKinds := [.data], laidTests := true, laidLooks := .later }
def FnExactSplitterOfUptoCardSaid : Prop := Claim7.holds Tryd.pinned (.plain (OpenSpec.upto fnExactSplitterOfSpec)) fnExactSplitterOfUptoCard

/-- THE SECOND FORM's CARD OF 'laws.FnExactCoTreeOk'. -/
def fnExactCoTreeOkUptoCard : Claim7 := { stood := { row := fnExactCoTreeOkUptoRow, standIns := [], harness := (true, "b2b96404f46bff95ea72910dbb85ad5529653fa2fdc7d7676c1ff85bece26720"), looks := false }, kinds := [], alts := [], laidByText := true, laidKinds := [.data], laidTests := true, laidLooks := .later }
def FnExactCoTreeOkUptoCardSaid : Prop := Claim7.holds Tryd.pinned (.plain (OpenSpec.upto fnExactCoTreeOkSpec)) fnExactCoTreeOkUptoCard

/-- THE SECOND FORM's CARD OF 'laws.FnExactPrimeIn'. -/
def fnExactPrimeInUptoCard : Claim7 := { stood := { row := fnExactPrimeInUptoRow, standIns := [], harness := (true, "b2b96404f46bff95ea72910dbb85ad5529653fa2fdc7d7676c1ff85bece26720"), looks := false }, kinds := [], alts := [], laidByText := true, laidKinds := [.data], laidTests := true, laidLooks := .later }
def FnExactPrimeInUptoCardSaid : Prop := Claim7.holds Tryd.pinned (.plain (OpenSpec.upto fnExactPrimeInSpec)) fnExactPrimeInUptoCard

/-- THE SECOND FORM's CARD OF 'laws.FnExactCoClique'. -/
def fnExactCoCliqueUptoCard : Claim7 := { stood := { row := fnExactCoCliqueUptoRow, standIns := [], harness := (true, "b2b96404f46bff95ea72910dbb85ad5529653fa2fdc7d7676c1ff85bece26720"), looks := false }, kinds := [], alts := [], laidByText := true, laidKinds := [.data], laidTests := true, laidLooks := .later }
def FnExactCoCliqueUptoCardSaid : Prop := Claim7.holds Tryd.pinned (.plain (OpenSpec.upto fnExactCoCliqueSpec)) fnExactCoCliqueUptoCard

/-- THE SECOND FORM's CARD OF 'laws.FnExactCoStable'. -/
def fnExactCoStableUptoCard : Claim7 := { stood := { row := fnExactCoStableUptoRow, standIns := [], harness := (true, "b2b96404f46bff95ea72910dbb85ad5529653fa2fdc7d7676c1ff85bece26720"), looks := false }, kinds := [], alts := [], laidByText := true, laidKinds := [.data], laidTests := true, laidLooks := .later }
def FnExactCoStableUptoCardSaid : Prop := Claim7.holds Tryd.pinned (.plain (OpenSpec.upto fnExactCoStableSpec)) fnExactCoStableUptoCard
end Rows
end Go.Proofs.YtakcoihndobmpaaDoor
