/-
  DERIVED. GIVEN WITH THE SEED: THE CARDS: each row of YthpbeiihlembnaaDoorRows.lean that lists a variable, with what it lists TIED to the program's text (the seventh form; the later family's looks); each row that meets fmt, with fmt's text TOLD by the authors' own Lean function (tested against real Go, not proved from fmt's source: count such statements apart). THE CARD IS WHAT COUNTS. Prove the row's statement (the work); the ties are given (YthpbeiihlembnaaDoorTie.lean); close each card by the builder's one call (the guide's Derived/Test/ToyasCard.lean, 'card_holds'). Laid BY PROGRAM, IN A SANDBOX (cutbox-door.mjs). By AI agents, Wed Nov 11 2026. No macro, syntax, notation, axiom, sorry.
-/
import Derived.Test.YthpbeiihlembnaaDoorRows
import GoSem.ClaimSeven
namespace Go.Proofs.YthpbeiihlembnaaDoor
namespace Rows

/-- THE TIED CARD OF 'laws.FnExactChordlessLoop'. -/
def fnExactChordlessLoopCard : Claim7 := { stood := { row := fnExactChordlessLoopRow, standIns := [], harness := (true, "c526e942536b01f7b0cbd7a4b2b72f9d35a7a89ca6ed710285f3d374ba6fc88f"), looks := false }, kinds := [], alts := [], laidByText := true, laidKinds := [.data], laidTests := true, laidLooks := .later }
def FnExactChordlessLoopCardSaid : Prop := Claim7.holds Tryd.pinned (.plain (OpenSpec.ofChange fnExactChordlessLoopSpec)) fnExactChordlessLoopCard

/-- THE TIED CARD OF 'laws.FnExactLeastLoop'. -/
def fnExactLeastLoopCard : Claim7 := { stood := { row := fnExactLeastLoopRow, standIns := [], harness := (true, "c526e942536b01f7b0cbd7a4b2b72f9d35a7a89ca6ed710285f3d374ba6fc88f"), looks := false }, kinds := [], alts := [], laidByText := true, laidKinds := [.data], laidTests := true, laidLooks := .later }
def FnExactLeastLoopCardSaid : Prop := Claim7.holds Tryd.pinned (.plain (OpenSpec.ofChange fnExactLeastLoopSpec)) fnExactLeastLoopCard

/-- THE TIED CARD OF 'laws.FnExactOddLoop'. -/
def fnExactOddLoopCard : Claim7 := { stood := { row := fnExactOddLoopRow, standIns := [], harness := (true, "c526e942536b01f7b0cbd7a4b2b72f9d35a7a89ca6ed710285f3d374ba6fc88f"), looks := false }, kinds := [], alts := [], laidByText := true, laidKinds := [.data], laidTests := true, laidLooks := .later }
def FnExactOddLoopCardSaid : Prop := Claim7.holds Tryd.pinned (.plain (OpenSpec.ofChange fnExactOddLoopSpec)) fnExactOddLoopCard

/-- THE TIED CARD OF 'laws.FnExactEarsOf'. -/
def fnExactEarsOfCard : Claim7 := { stood := { row := fnExactEarsOfRow, standIns := [], harness := (true, "c526e942536b01f7b0cbd7a4b2b72f9d35a7a89ca6ed710285f3d374ba6fc88f"), looks := false }, kinds := [], alts := [], laidByText := true, laidKinds := [.data], laidTests := true, laidLooks := .later }
def FnExactEarsOfCardSaid : Prop := Claim7.holds Tryd.pinned (.plain (OpenSpec.ofChange fnExactEarsOfSpec)) fnExactEarsOfCard

/-- THE TIED CARD OF 'laws.FnSides'. -/
def fnSidesCard : Claim7 := { stood := { row := fnSidesRow, standIns := [], harness := (true, "c526e942536b01f7b0cbd7a4b2b72f9d35a7a89ca6ed710285f3d374ba6fc88f"), looks := false }, kinds := [], alts := [], laidByText := true, laidKinds := [.data], laidTests := true, laidLooks := .later }
def FnSidesCardSaid : Prop := Claim7.holds Tryd.pinned (.plain (OpenSpec.ofChange fnSidesSpec)) fnSidesCard

/-- THE TIED CARD OF 'laws.FnEars'. -/
def fnEarsCard : Claim7 := { stood := { row := fnEarsRow, standIns := [], harness := (true, "c526e942536b01f7b0cbd7a4b2b72f9d35a7a89ca6ed710285f3d374ba6fc88f"), looks := false }, kinds := [], alts := [], laidByText := true, laidKinds := [.data], laidTests := true, laidLooks := .later }
def FnEarsCardSaid : Prop := Claim7.holds Tryd.pinned (.plain (OpenSpec.ofChange fnEarsSpec)) fnEarsCard

/-- THE TIED CARD OF 'laws.FnExactFullMinor'. -/
def fnExactFullMinorCard : Claim7 := { stood := { row := fnExactFullMinorRow, standIns := [], harness := (true, "c526e942536b01f7b0cbd7a4b2b72f9d35a7a89ca6ed710285f3d374ba6fc88f"), looks := false }, kinds := [], alts := [], laidByText := true, laidKinds := [.data], laidTests := true, laidLooks := .later }
def FnExactFullMinorCardSaid : Prop := Claim7.holds Tryd.pinned (.plain (OpenSpec.ofChange fnExactFullMinorSpec)) fnExactFullMinorCard

/-- THE TIED CARD OF 'laws.FnExactModularTree'. -/
def fnExactModularTreeCard : Claim7 := { stood := { row := fnExactModularTreeRow, standIns := [], harness := (true, "c526e942536b01f7b0cbd7a4b2b72f9d35a7a89ca6ed710285f3d374ba6fc88f"), looks := false }, kinds := [], alts := [], laidByText := true, laidKinds := [.data], laidTests := true, laidLooks := .later }
def FnExactModularTreeCardSaid : Prop := Claim7.holds Tryd.pinned (.plain (OpenSpec.ofChange fnExactModularTreeSpec)) fnExactModularTreeCard

/-- THE TIED CARD OF 'laws.FnExactIntervalIn'. -/
def fnExactIntervalInCard : Claim7 := { stood := { row := fnExactIntervalInRow, standIns := [], harness := (true, "c526e942536b01f7b0cbd7a4b2b72f9d35a7a89ca6ed710285f3d374ba6fc88f"), looks := false }, kinds := [], alts := [], laidByText := true, laidKinds := [.data], laidTests := true, laidLooks := .later }
def FnExactIntervalInCardSaid : Prop := Claim7.holds Tryd.pinned (.plain (OpenSpec.ofChange fnExactIntervalInSpec)) fnExactIntervalInCard

/-- THE TIED CARD OF 'laws.FnExactCliqueOrder'. -/
def fnExactCliqueOrderCard : Claim7 := { stood := { row := fnExactCliqueOrderRow, standIns := [], harness := (true, "c526e942536b01f7b0cbd7a4b2b72f9d35a7a89ca6ed710285f3d374ba6fc88f"), looks := false }, kinds := [], alts := [], laidByText := true, laidKinds := [.data], laidTests := true, laidLooks := .later }
def FnExactCliqueOrderCardSaid : Prop := Claim7.holds Tryd.pinned (.plain (OpenSpec.ofChange fnExactCliqueOrderSpec)) fnExactCliqueOrderCard

/-- THE TIED CARD OF 'laws.FnExactWhyNotPerm'. -/
def fnExactWhyNotPermCard : Claim7 := { stood := { row := fnExactWhyNotPermRow, standIns := [], harness := (true, "c526e942536b01f7b0cbd7a4b2b72f9d35a7a89ca6ed710285f3d374ba6fc88f"), looks := false }, kinds := [], alts := [], laidByText := true, laidKinds := [.data], laidTests := true, laidLooks := .later }
def FnExactWhyNotPermCardSaid : Prop := Claim7.holds Tryd.pinned (.plain (OpenSpec.ofChange fnExactWhyNotPermSpec)) fnExactWhyNotPermCard

/-- THE TIED CARD OF 'laws.FnExactIntervalsOf'. -/
def fnExactIntervalsOfCard : Claim7 := { stood := { row := fnExactIntervalsOfRow, standIns := [], harness := (true, "c526e942536b01f7b0cbd7a4b2b72f9d35a7a89ca6ed710285f3d374ba6fc88f"), looks := false }, kinds := [], alts := [], laidByText := true, laidKinds := [.data], laidTests := true, laidLooks := .later }
def FnExactIntervalsOfCardSaid : Prop := Claim7.holds Tryd.pinned (.plain (OpenSpec.ofChange fnExactIntervalsOfSpec)) fnExactIntervalsOfCard

/-- THE SECOND FORM's CARD OF 'laws.FnExactChordlessLoop'. -/
def fnExactChordlessLoopUptoCard : Claim7 := { stood := { row := fnExactChordlessLoopUptoRow, standIns := [], harness := (true, "c526e942536b01f7b0cbd7a4b2b72f9d35a7a89ca6ed710285f3d374ba6fc88f"), looks := false }, kinds := [], alts := [], laidByText := true, laidKinds := [.data], laidTests := true, laidLooks := .later }
def FnExactChordlessLoopUptoCardSaid : Prop := Claim7.holds Tryd.pinned (.plain (OpenSpec.upto fnExactChordlessLoopSpec)) fnExactChordlessLoopUptoCard

/-- THE SECOND FORM's CARD OF 'laws.FnExactLeastLoop'. -/
def fnExactLeastLoopUptoCard : Claim7 := { stood := { row := fnExactLeastLoopUptoRow, standIns := [], harness := (true, "c526e942536b01f7b0cbd7a4b2b72f9d35a7a89ca6ed710285f3d374ba6fc88f"), looks := false }, kinds := [], alts := [], laidByText := true, laidKinds := [.data], laidTests := true, laidLooks := .later }
def FnExactLeastLoopUptoCardSaid : Prop := Claim7.holds Tryd.pinned (.plain (OpenSpec.upto fnExactLeastLoopSpec)) fnExactLeastLoopUptoCard

/-- THE SECOND FORM's CARD OF 'laws.FnExactOddLoop'. -/
def fnExactOddLoopUptoCard : Claim7 := { stood := { row := fnExactOddLoopUptoRow, standIns := [], harness := (true, "c526e942536b01f7b0cbd7a4b2b72f9d35a7a89ca6ed710285f3d374ba6fc88f"), looks := false }, kinds := [], alts := [], laidByText := true, laidKinds := [.data], laidTests := true, laidLooks := .later }
def FnExactOddLoopUptoCardSaid : Prop := Claim7.holds Tryd.pinned (.plain (OpenSpec.upto fnExactOddLoopSpec)) fnExactOddLoopUptoCard

/-- THE SECOND FORM's CARD OF 'laws.FnExactEarsOf'. -/
def fnExactEarsOfUptoCard : Claim7 := { stood := { row := fnExactEarsOfUptoRow, standIns := [], harness := (true, "c526e942536b01f7b0cbd7a4b2b72f9d35a7a89ca6ed710285f3d374ba6fc88f"), looks := false }, kinds := [], alts := [], laidByText := true, laidKinds := [.data], laidTests := true, laidLooks := .later }
def FnExactEarsOfUptoCardSaid : Prop := Claim7.holds Tryd.pinned (.plain (OpenSpec.upto fnExactEarsOfSpec)) fnExactEarsOfUptoCard

/-- THE SECOND FORM's CARD OF 'laws.FnSides'. -/
def fnSidesUptoCard : Claim7 := { stood := { row := fnSidesUptoRow, standIns := [], harness := (true, "c526e942536b01f7b0cbd7a4b2b72f9d35a7a89ca6ed710285f3d374ba6fc88f"), looks := false }, kinds := [], alts := [], laidByText := true, laidKinds := [.data], laidTests := true, laidLooks := .later }
def FnSidesUptoCardSaid : Prop := Claim7.holds Tryd.pinned (.plain (OpenSpec.upto fnSidesSpec)) fnSidesUptoCard

/-- THE SECOND FORM's CARD OF 'laws.FnEars'. -/
def fnEarsUptoCard : Claim7 := { stood := { row := fnEarsUptoRow, standIns := [], harness := (true, "c526e942536b01f7b0cbd7a4b2b72f9d35a7a89ca6ed710285f3d374ba6fc88f"), looks := false }, kinds := [], alts := [], laidByText := true, laidKinds := [.data], laidTests := true, laidLooks := .later }
def FnEarsUptoCardSaid : Prop := Claim7.holds Tryd.pinned (.plain (OpenSpec.upto fnEarsSpec)) fnEarsUptoCard

/-- THE SECOND FORM's CARD OF 'laws.FnExactFullMinor'. -/
def fnExactFullMinorUptoCard : Claim7 := { stood := { row := fnExactFullMinorUptoRow, standIns := [], harness := (true, "c526e942536b01f7b0cbd7a4b2b72f9d35a7a89ca6ed710285f3d374ba6fc88f"), looks := false }, kinds := [], alts := [], laidByText := true, laidKinds := [.data], laidTests := true, laidLooks := .later }
def FnExactFullMinorUptoCardSaid : Prop := Claim7.holds Tryd.pinned (.plain (OpenSpec.upto fnExactFullMinorSpec)) fnExactFullMinorUptoCard

/-- THE SECOND FORM's CARD OF 'laws.FnExactModularTree'. -/
def fnExactModularTreeUptoCard : Claim7 := { stood := { row := fnExactModularTreeUptoRow, standIns := [], harness := (true, "c526e942536b01f7b0cbd7a4b2b72f9d35a7a89ca6ed710285f3d374ba6fc88f"), looks := false }, kinds := [], alts := [], laidByText := true, laidKinds := [.data], laidTests := true, laidLooks := .later }
def FnExactModularTreeUptoCardSaid : Prop := Claim7.holds Tryd.pinned (.plain (OpenSpec.upto fnExactModularTreeSpec)) fnExactModularTreeUptoCard

/-- THE SECOND FORM's CARD OF 'laws.FnExactIntervalIn'. -/
def fnExactIntervalInUptoCard : Claim7 := { stood := { row := fnExactIntervalInUptoRow, standIns := [], harness := (true, "c526e942536b01f7b0cbd7a4b2b72f9d35a7a89ca6ed710285f3d374ba6fc88f"), looks := false }, kinds := [], alts := [], laidByText := true, laidKinds := [.data], laidTests := true, laidLooks := .later }
def FnExactIntervalInUptoCardSaid : Prop := Claim7.holds Tryd.pinned (.plain (OpenSpec.upto fnExactIntervalInSpec)) fnExactIntervalInUptoCard

/-- THE SECOND FORM's CARD OF 'laws.FnExactCliqueOrder'. -/
def fnExactCliqueOrderUptoCard : Claim7 := { stood := { row := fnExactCliqueOrderUptoRow, standIns := [], harness := (true, "c526e942536b01f7b0cbd7a4b2b72f9d35a7a89ca6ed710285f3d374ba6fc88f"), looks := false }, kinds := [], alts := [], laidByText := true, laidKinds := [.data], laidTests := true, laidLooks := .later }
def FnExactCliqueOrderUptoCardSaid : Prop := Claim7.holds Tryd.pinned (.plain (OpenSpec.upto fnExactCliqueOrderSpec)) fnExactCliqueOrderUptoCard

/-- THE SECOND FORM's CARD OF 'laws.FnExactWhyNotPerm'. -/
def fnExactWhyNotPermUptoCard : Claim7 := { stood := { row := fnExactWhyNotPermUptoRow, standIns := [], harness := (true, "c526e942536b01f7b0cbd7a4b2b72f9d35a7a89ca6ed710285f3d374ba6fc88f"), looks := false }, kinds := [], alts := [], laidByText := true, laidKinds := [.data], laidTests := true, laidLooks := .later }
def FnExactWhyNotPermUptoCardSaid : Prop := Claim7.holds Tryd.pinned (.plain (OpenSpec.upto fnExactWhyNotPermSpec)) fnExactWhyNotPermUptoCard

/-- THE SECOND FORM's CARD OF 'laws.FnExactIntervalsOf'. -/
def fnExactIntervalsOfUptoCard : Claim7 := { stood := { row := fnExactIntervalsOfUptoRow, standIns := [], harness := (true, "c526e942536b01f7b0cbd7a4b2b72f9d35a7a89ca6ed710285f3d374ba6fc88f"), looks := false }, kinds := [], alts := [], laidByText := true, laidKinds := [.data], laidTests := true, laidLooks := .later }
def FnExactIntervalsOfUptoCardSaid : Prop := Claim7.holds Tryd.pinned (.plain (OpenSpec.upto fnExactIntervalsOfSpec)) fnExactIntervalsOfUptoCard
end Rows
end Go.Proofs.YthpbeiihlembnaaDoor
