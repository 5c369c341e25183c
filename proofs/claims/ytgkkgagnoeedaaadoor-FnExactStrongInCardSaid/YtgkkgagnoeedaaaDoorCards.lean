/-
  DERIVED. GIVEN WITH THE SEED: THE CARDS: each row of YtgkkgagnoeedaaaDoorRows.lean that lists a variable, with what it lists TIED to the program's text (the seventh form; the later family's looks); each row that meets fmt, with fmt's text TOLD by the authors' own Lean function (tested against real Go, not proved from fmt's source: count such statements apart). THE CARD IS WHAT COUNTS. Prove the row's statement (the work); the ties are given (YtgkkgagnoeedaaaDoorTie.lean); close each card by the builder's one call (the guide's Derived/Test/ToyasCard.lean, 'card_holds'). Laid BY PROGRAM, IN A SANDBOX (cutbox-door.mjs). By AI agents, Wed Nov 11 2026. No macro, syntax, notation, axiom, sorry.
-/
import Derived.Test.YtgkkgagnoeedaaaDoorRows
import GoSem.ClaimSeven
namespace Go.Proofs.YtgkkgagnoeedaaaDoor
namespace Rows

/-- THE TIED CARD OF 'laws.FnExactFullMinor'. -/
def fnExactFullMinorCard : Claim7 := { stood := { row := fnExactFullMinorRow, standIns := [], harness := (true, "11eb31c3b4f1dbf53b3590420a98419f6a8f0e49cdc5a079b7788a1b149797db"), looks := false }, kinds := [], alts := [], laidByText := true, laidKinds := [.data], laidTests := true, laidLooks := .later }
def FnExactFullMinorCardSaid : Prop := Claim7.holds Tryd.pinned (.plain (OpenSpec.ofChange fnExactFullMinorSpec)) fnExactFullMinorCard

/-- THE TIED CARD OF 'laws.FnExactEarsOf'. -/
def fnExactEarsOfCard : Claim7 := { stood := { row := fnExactEarsOfRow, standIns := [], harness := (true, "11eb31c3b4f1dbf53b3590420a98419f6a8f0e49cdc5a079b7788a1b149797db"), looks := false }, kinds := [], alts := [], laidByText := true, laidKinds := [.data], laidTests := true, laidLooks := .later }
def FnExactEarsOfCardSaid : Prop := Claim7.holds Tryd.pinned (.plain (OpenSpec.ofChange fnExactEarsOfSpec)) fnExactEarsOfCard

/-- THE TIED CARD OF 'laws.FnEars'. -/
def fnEarsCard : Claim7 := { stood := { row := fnEarsRow, standIns := [], harness := (true, "11eb31c3b4f1dbf53b3590420a98419f6a8f0e49cdc5a079b7788a1b149797db"), looks := false }, kinds := [], alts := [], laidByText := true, laidKinds := [.data], laidTests := true, laidLooks := .later }
def FnEarsCardSaid : Prop := Claim7.holds Tryd.pinned (.plain (OpenSpec.ofChange fnEarsSpec)) fnEarsCard

/-- THE TIED CARD OF 'laws.FnExactModTreeOk'. -/
def fnExactModTreeOkCard : Claim7 := { stood := { row := fnExactModTreeOkRow, standIns := [], harness := (true, "11eb31c3b4f1dbf53b3590420a98419f6a8f0e49cdc5a079b7788a1b149797db"), looks := false }, kinds := [], alts := [], laidByText := true, laidKinds := [.data], laidTests := true, laidLooks := .later }
def FnExactModTreeOkCardSaid : Prop := Claim7.holds Tryd.pinned (.plain (OpenSpec.ofChange fnExactModTreeOkSpec)) fnExactModTreeOkCard

/-- THE TIED CARD OF 'laws.FnExactStrongIn'. -/
def fnExactStrongInCard : Claim7 := { stood := { row := fnExactStrongInRow, standIns := [], harness := (true, "11eb31c3b4f1dbf53b3590420a98419f6a8f0e49cdc5a079b7788a1b149797db"), looks := false }, kinds := [], alts := [], laidByText := true, laidKinds := [.data], laidTests := true, laidLooks := .later }
def FnExactStrongInCardSaid : Prop := Claim7.holds Tryd.pinned (.plain (OpenSpec.ofChange fnExactStrongInSpec)) fnExactStrongInCard

/-- THE TIED CARD OF 'laws.FnExactBlocksAt'. -/
def fnExactBlocksAtCard : Claim7 := { stood := { row := fnExactBlocksAtRow, standIns := [], harness := (true, "11eb31c3b4f1dbf53b3590420a98419f6a8f0e49cdc5a079b7788a1b149797db"), looks := false }, kinds := [], alts := [], laidByText := true, laidKinds := [.data], laidTests := true, laidLooks := .later }
def FnExactBlocksAtCardSaid : Prop := Claim7.holds Tryd.pinned (.plain (OpenSpec.ofChange fnExactBlocksAtSpec)) fnExactBlocksAtCard

/-- THE TIED CARD OF 'laws.FnExactIntervalIn'. -/
def fnExactIntervalInCard : Claim7 := { stood := { row := fnExactIntervalInRow, standIns := [], harness := (true, "11eb31c3b4f1dbf53b3590420a98419f6a8f0e49cdc5a079b7788a1b149797db"), looks := false }, kinds := [], alts := [], laidByText := true, laidKinds := [.data], laidTests := true, laidLooks := .later }
def FnExactIntervalInCardSaid : Prop := Claim7.holds Tryd.pinned (.plain (OpenSpec.ofChange fnExactIntervalInSpec)) fnExactIntervalInCard

/-- THE TIED CARD OF 'laws.FnExactCliqueOrder'. -/
def fnExactCliqueOrderCard : Claim7 := { stood := { row := fnExactCliqueOrderRow, standIns := [], harness := (true, "11eb31c3b4f1dbf53b3590420a98419f6a8f0e49cdc5a079b7788a1b149797db"), looks := false }, kinds := [], alts := [], laidByText := true, laidKinds := [.data], laidTests := true, laidLooks := .later }
def FnExactCliqueOrderCardSaid : Prop := Claim7.holds Tryd.pinned (.plain (OpenSpec.ofChange fnExactCliqueOrderSpec)) fnExactCliqueOrderCard

/-- THE TIED CARD OF 'laws.FnExactWhyNotPerm'. -/
def fnExactWhyNotPermCard : Claim7 := { stood := { row := fnExactWhyNotPermRow, standIns := [], harness := (true, "11eb31c3b4f1dbf53b3590420a98419f6a8f0e49cdc5a079b7788a1b149797db"), looks := false }, kinds := [], alts := [], laidByText := true, laidKinds := [.data], laidTests := true, laidLooks := .later }
def FnExactWhyNotPermCardSaid : Prop := Claim7.holds Tryd.pinned (.plain (OpenSpec.ofChange fnExactWhyNotPermSpec)) fnExactWhyNotPermCard

/-- THE TIED CARD OF 'laws.FnExactIntervalsOf'. -/
def fnExactIntervalsOfCard : Claim7 := { stood := { row := fnExactIntervalsOfRow, standIns := [], harness := (true, "11eb31c3b4f1dbf53b3590420a98419f6a8f0e49cdc5a079b7788a1b149797db"), looks := false }, kinds := [], alts := [], laidByText := true, laidKinds := [.data], laidTests := true, laidLooks := .later }
def FnExactIntervalsOfCardSaid : Prop := Claim7.holds Tryd.pinned (.plain (OpenSpec.ofChange fnExactIntervalsOfSpec)) fnExactIntervalsOfCard

/-- THE SECOND FORM's CARD OF 'laws.FnExactFullMinor'. -/
def fnExactFullMinorUptoCard : Claim7 := { stood := { row := fnExactFullMinorUptoRow, standIns := [], harness := (true, "11eb31c3b4f1dbf53b3590420a98419f6a8f0e49cdc5a079b7788a1b149797db"), looks := false }, kinds := [], alts := [], laidByText := true, laidKinds := [.data], laidTests := true, laidLooks := .later }
def FnExactFullMinorUptoCardSaid : Prop := Claim7.holds Tryd.pinned (.plain (OpenSpec.upto fnExactFullMinorSpec)) fnExactFullMinorUptoCard

/-- THE SECOND FORM's CARD OF 'laws.FnExactEarsOf'. -/
def fnExactEarsOfUptoCard : Claim7 := { stood := { row := fnExactEarsOfUptoRow, standIns := [], harness := (true, "11eb31c3b4f1dbf53b3590420a98419f6a8f0e49cdc5a079b7788a1b149797db"), looks := false }, kinds := [], alts := [], laidByText := true, laidKinds := [.data], laidTests := true, laidLooks := .later }
def FnExactEarsOfUptoCardSaid : Prop := Claim7.holds Tryd.pinned (.plain (OpenSpec.upto fnExactEarsOfSpec)) fnExactEarsOfUptoCard

/-- THE SECOND FORM's CARD OF 'laws.FnEars'. -/
def fnEarsUptoCard : Claim7 := { stood := { row := fnEarsUptoRow, standIns := [], harness := (true, "11eb31c3b4f1dbf53b3590420a98419f6a8f0e49cdc5a079b7788a1b149797db"), looks := false }, kinds := [], alts := [], laidByText := true, laidKinds := [.data], laidTests := true, laidLooks := .later }
def FnEarsUptoCardSaid : Prop := Claim7.holds Tryd.pinned (.plain (OpenSpec.upto fnEarsSpec)) fnEarsUptoCard

/-- THE SECOND FORM's CARD OF 'laws.FnExactModTreeOk'. -/
def fnExactModTreeOkUptoCard : Claim7 := { stood := { row := fnExactModTreeOkUptoRow, standIns := [], harness := (true, "11eb31c3b4f1dbf53b3590420a98419f6a8f0e49cdc5a079b7788a1b149797db"), looks := false }, kinds := [], alts := [], laidByText := true, laidKinds := [.data], laidTests := true, laidLooks := .later }
def FnExactModTreeOkUptoCardSaid : Prop := Claim7.holds Tryd.pinned (.plain (OpenSpec.upto fnExactModTreeOkSpec)) fnExactModTreeOkUptoCard

/-- THE SECOND FORM's CARD OF 'laws.FnExactStrongIn'. -/
def fnExactStrongInUptoCard : Claim7 := { stood := { row := fnExactStrongInUptoRow, standIns := [], harness := (true, "11eb31c3b4f1dbf53b3590420a98419f6a8f0e49cdc5a079b7788a1b149797db"), looks := false }, kinds := [], alts := [], laidByText := true, laidKinds := [.data], laidTests := true, laidLooks := .later }
def FnExactStrongInUptoCardSaid : Prop := Claim7.holds Tryd.pinned (.plain (OpenSpec.upto fnExactStrongInSpec)) fnExactStrongInUptoCard

/-- THE SECOND FORM's CARD OF 'laws.FnExactBlocksAt'. -/
def fnExactBlocksAtUptoCard : Claim7 := { stood := { row := fnExactBlocksAtUptoRow, standIns := [], harness := (true, "11eb31c3b4f1dbf53b3590420a98419f6a8f0e49cdc5a079b7788a1b149797db"), looks := false }, kinds := [], alts := [], laidByText := true, laidKinds := [.data], laidTests := true, laidLooks := .later }
def FnExactBlocksAtUptoCardSaid : Prop := Claim7.holds Tryd.pinned (.plain (OpenSpec.upto fnExactBlocksAtSpec)) fnExactBlocksAtUptoCard

/-- THE SECOND FORM's CARD OF 'laws.FnExactIntervalIn'. -/
def fnExactIntervalInUptoCard : Claim7 := { stood := { row := fnExactIntervalInUptoRow, standIns := [], harness := (true, "11eb31c3b4f1dbf53b3590420a98419f6a8f0e49cdc5a079b7788a1b149797db"), looks := false }, kinds := [], alts := [], laidByText := true, laidKinds := [.data], laidTests := true, laidLooks := .later }
def FnExactIntervalInUptoCardSaid : Prop := Claim7.holds Tryd.pinned (.plain (OpenSpec.upto fnExactIntervalInSpec)) fnExactIntervalInUptoCard

/-- THE SECOND FORM's CARD OF 'laws.FnExactCliqueOrder'. -/
def fnExactCliqueOrderUptoCard : Claim7 := { stood := { row := fnExactCliqueOrderUptoRow, standIns := [], harness := (true, "11eb31c3b4f1dbf53b3590420a98419f6a8f0e49cdc5a079b7788a1b149797db"), looks := false }, kinds := [], alts := [], laidByText := true, laidKinds := [.data], laidTests := true, laidLooks := .later }
def FnExactCliqueOrderUptoCardSaid : Prop := Claim7.holds Tryd.pinned (.plain (OpenSpec.upto fnExactCliqueOrderSpec)) fnExactCliqueOrderUptoCard

/-- THE SECOND FORM's CARD OF 'laws.FnExactWhyNotPerm'. -/
def fnExactWhyNotPermUptoCard : Claim7 := { stood := { row := fnExactWhyNotPermUptoRow, standIns := [], harness := (true, "11eb31c3b4f1dbf53b3590420a98419f6a8f0e49cdc5a079b7788a1b149797db"), looks := false }, kinds := [], alts := [], laidByText := true, laidKinds := [.data], laidTests := true, laidLooks := .later }
def FnExactWhyNotPermUptoCardSaid : Prop := Claim7.holds Tryd.pinned (.plain (OpenSpec.upto fnExactWhyNotPermSpec)) fnExactWhyNotPermUptoCard

/-- THE SECOND FORM's CARD OF 'laws.FnExactIntervalsOf'. -/
def fnExactIntervalsOfUptoCard : Claim7 := { stood := { row := fnExactIntervalsOfUptoRow, standIns := [], harness := (true, "11eb31c3b4f1dbf53b3590420a98419f6a8f0e49cdc5a079b7788a1b149797db"), looks := false }, kinds := [], alts := [], laidByText := true, laidKinds := [.data], laidTests := true, laidLooks := .later }
def FnExactIntervalsOfUptoCardSaid : Prop := Claim7.holds Tryd.pinned (.plain (OpenSpec.upto fnExactIntervalsOfSpec)) fnExactIntervalsOfUptoCard
end Rows
end Go.Proofs.YtgkkgagnoeedaaaDoor
