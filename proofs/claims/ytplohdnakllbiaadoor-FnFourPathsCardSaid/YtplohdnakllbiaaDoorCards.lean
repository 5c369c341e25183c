/-
  DERIVED. GIVEN WITH THE SEED: THE CARDS: each row of YtplohdnakllbiaaDoorRows.lean that lists a variable, with what it lists TIED to the program's text (the seventh form; the later family's looks); each row that meets fmt, with fmt's text TOLD by the authors' own Lean function (tested against real Go, not proved from fmt's source: count such statements apart). THE CARD IS WHAT COUNTS. Prove the row's statement (the work); the ties are given (YtplohdnakllbiaaDoorTie.lean); close each card by the builder's one call (the guide's Derived/Test/ToyasCard.lean, 'card_holds'). Laid BY PROGRAM, IN A SANDBOX (cutbox-door.mjs). By AI agents, Wed Nov 11 2026. No macro, syntax, notation, axiom, sorry.
-/
import Derived.Test.YtplohdnakllbiaaDoorRows
import GoSem.ClaimSeven
namespace Go.Proofs.YtplohdnakllbiaaDoor
namespace Rows

/-- THE TIED CARD OF 'laws.FnExactChordlessLoop'. -/
def fnExactChordlessLoopCard : Claim7 := { stood := { row := fnExactChordlessLoopRow, standIns := [], harness := (true, "ed35d6bce2db7d23f92fc02395d62219a8c258c44feffb270222de61fc740c03"), looks := false }, kinds := [], alts := [], laidByText := true, laidKinds := [.data], laidTests := true, laidLooks := .later }
def FnExactChordlessLoopCardSaid : Prop := Claim7.holds Tryd.pinned (.plain (OpenSpec.ofChange fnExactChordlessLoopSpec)) fnExactChordlessLoopCard

/-- THE TIED CARD OF 'laws.FnExactLeastLoop'. -/
def fnExactLeastLoopCard : Claim7 := { stood := { row := fnExactLeastLoopRow, standIns := [], harness := (true, "ed35d6bce2db7d23f92fc02395d62219a8c258c44feffb270222de61fc740c03"), looks := false }, kinds := [], alts := [], laidByText := true, laidKinds := [.data], laidTests := true, laidLooks := .later }
def FnExactLeastLoopCardSaid : Prop := Claim7.holds Tryd.pinned (.plain (OpenSpec.ofChange fnExactLeastLoopSpec)) fnExactLeastLoopCard

/-- THE TIED CARD OF 'laws.FnExactOddLoop'. -/
def fnExactOddLoopCard : Claim7 := { stood := { row := fnExactOddLoopRow, standIns := [], harness := (true, "ed35d6bce2db7d23f92fc02395d62219a8c258c44feffb270222de61fc740c03"), looks := false }, kinds := [], alts := [], laidByText := true, laidKinds := [.data], laidTests := true, laidLooks := .later }
def FnExactOddLoopCardSaid : Prop := Claim7.holds Tryd.pinned (.plain (OpenSpec.ofChange fnExactOddLoopSpec)) fnExactOddLoopCard

/-- THE TIED CARD OF 'laws.FnExactEarsOf'. -/
def fnExactEarsOfCard : Claim7 := { stood := { row := fnExactEarsOfRow, standIns := [], harness := (true, "ed35d6bce2db7d23f92fc02395d62219a8c258c44feffb270222de61fc740c03"), looks := false }, kinds := [], alts := [], laidByText := true, laidKinds := [.data], laidTests := true, laidLooks := .later }
def FnExactEarsOfCardSaid : Prop := Claim7.holds Tryd.pinned (.plain (OpenSpec.ofChange fnExactEarsOfSpec)) fnExactEarsOfCard

/-- THE TIED CARD OF 'laws.FnFourPaths'. -/
def fnFourPathsCard : Claim7 := { stood := { row := fnFourPathsRow, standIns := [], harness := (true, "ed35d6bce2db7d23f92fc02395d62219a8c258c44feffb270222de61fc740c03"), looks := false }, kinds := [], alts := [], laidByText := true, laidKinds := [.data], laidTests := true, laidLooks := .later }
def FnFourPathsCardSaid : Prop := Claim7.holds Tryd.pinned (.plain (OpenSpec.ofChange fnFourPathsSpec)) fnFourPathsCard

/-- THE TIED CARD OF 'laws.FnSides'. -/
def fnSidesCard : Claim7 := { stood := { row := fnSidesRow, standIns := [], harness := (true, "ed35d6bce2db7d23f92fc02395d62219a8c258c44feffb270222de61fc740c03"), looks := false }, kinds := [], alts := [], laidByText := true, laidKinds := [.data], laidTests := true, laidLooks := .later }
def FnSidesCardSaid : Prop := Claim7.holds Tryd.pinned (.plain (OpenSpec.ofChange fnSidesSpec)) fnSidesCard

/-- THE TIED CARD OF 'laws.FnEars'. -/
def fnEarsCard : Claim7 := { stood := { row := fnEarsRow, standIns := [], harness := (true, "ed35d6bce2db7d23f92fc02395d62219a8c258c44feffb270222de61fc740c03"), looks := false }, kinds := [], alts := [], laidByText := true, laidKinds := [.data], laidTests := true, laidLooks := .later }
def FnEarsCardSaid : Prop := Claim7.holds Tryd.pinned (.plain (OpenSpec.ofChange fnEarsSpec)) fnEarsCard

/-- THE TIED CARD OF 'laws.FnExactFullMinor'. -/
def fnExactFullMinorCard : Claim7 := { stood := { row := fnExactFullMinorRow, standIns := [], harness := (true, "ed35d6bce2db7d23f92fc02395d62219a8c258c44feffb270222de61fc740c03"), looks := false }, kinds := [], alts := [], laidByText := true, laidKinds := [.data], laidTests := true, laidLooks := .later }
def FnExactFullMinorCardSaid : Prop := Claim7.holds Tryd.pinned (.plain (OpenSpec.ofChange fnExactFullMinorSpec)) fnExactFullMinorCard

/-- THE TIED CARD OF 'laws.FnExactModularTree'. -/
def fnExactModularTreeCard : Claim7 := { stood := { row := fnExactModularTreeRow, standIns := [], harness := (true, "ed35d6bce2db7d23f92fc02395d62219a8c258c44feffb270222de61fc740c03"), looks := false }, kinds := [], alts := [], laidByText := true, laidKinds := [.data], laidTests := true, laidLooks := .later }
def FnExactModularTreeCardSaid : Prop := Claim7.holds Tryd.pinned (.plain (OpenSpec.ofChange fnExactModularTreeSpec)) fnExactModularTreeCard

/-- THE SECOND FORM's CARD OF 'laws.FnExactChordlessLoop'. -/
def fnExactChordlessLoopUptoCard : Claim7 := { stood := { row := fnExactChordlessLoopUptoRow, standIns := [], harness := (true, "ed35d6bce2db7d23f92fc02395d62219a8c258c44feffb270222de61fc740c03"), looks := false }, kinds := [], alts := [], laidByText := true, laidKinds := [.data], laidTests := true, laidLooks := .later }
def FnExactChordlessLoopUptoCardSaid : Prop := Claim7.holds Tryd.pinned (.plain (OpenSpec.upto fnExactChordlessLoopSpec)) fnExactChordlessLoopUptoCard

/-- THE SECOND FORM's CARD OF 'laws.FnExactLeastLoop'. -/
def fnExactLeastLoopUptoCard : Claim7 := { stood := { row := fnExactLeastLoopUptoRow, standIns := [], harness := (true, "ed35d6bce2db7d23f92fc02395d62219a8c258c44feffb270222de61fc740c03"), looks := false }, kinds := [], alts := [], laidByText := true, laidKinds := [.data], laidTests := true, laidLooks := .later }
def FnExactLeastLoopUptoCardSaid : Prop := Claim7.holds Tryd.pinned (.plain (OpenSpec.upto fnExactLeastLoopSpec)) fnExactLeastLoopUptoCard

/-- THE SECOND FORM's CARD OF 'laws.FnExactOddLoop'. -/
def fnExactOddLoopUptoCard : Claim7 := { stood := { row := fnExactOddLoopUptoRow, standIns := [], harness := (true, "ed35d6bce2db7d23f92fc02395d62219a8c258c44feffb270222de61fc740c03"), looks := false }, kinds := [], alts := [], laidByText := true, laidKinds := [.data], laidTests := true, laidLooks := .later }
def FnExactOddLoopUptoCardSaid : Prop := Claim7.holds Tryd.pinned (.plain (OpenSpec.upto fnExactOddLoopSpec)) fnExactOddLoopUptoCard

/-- THE SECOND FORM's CARD OF 'laws.FnExactEarsOf'. -/
def fnExactEarsOfUptoCard : Claim7 := { stood := { row := fnExactEarsOfUptoRow, standIns := [], harness := (true, "ed35d6bce2db7d23f92fc02395d62219a8c258c44feffb270222de61fc740c03"), looks := false }, kinds := [], alts := [], laidByText := true, laidKinds := [.data], laidTests := true, laidLooks := .later }
def FnExactEarsOfUptoCardSaid : Prop := Claim7.holds Tryd.pinned (.plain (OpenSpec.upto fnExactEarsOfSpec)) fnExactEarsOfUptoCard

/-- THE SECOND FORM's CARD OF 'laws.FnFourPaths'. -/
def fnFourPathsUptoCard : Claim7 := { stood := { row := fnFourPathsUptoRow, standIns := [], harness := (true, "ed35d6bce2db7d23f92fc02395d62219a8c258c44feffb270222de61fc740c03"), looks := false }, kinds := [], alts := [], laidByText := true, laidKinds := [.data], laidTests := true, laidLooks := .later }
def FnFourPathsUptoCardSaid : Prop := Claim7.holds Tryd.pinned (.plain (OpenSpec.upto fnFourPathsSpec)) fnFourPathsUptoCard

/-- THE SECOND FORM's CARD OF 'laws.FnSides'. -/
def fnSidesUptoCard : Claim7 := { stood := { row := fnSidesUptoRow, standIns := [], harness := (true, "ed35d6bce2db7d23f92fc02395d62219a8c258c44feffb270222de61fc740c03"), looks := false }, kinds := [], alts := [], laidByText := true, laidKinds := [.data], laidTests := true, laidLooks := .later }
def FnSidesUptoCardSaid : Prop := Claim7.holds Tryd.pinned (.plain (OpenSpec.upto fnSidesSpec)) fnSidesUptoCard

/-- THE SECOND FORM's CARD OF 'laws.FnEars'. -/
def fnEarsUptoCard : Claim7 := { stood := { row := fnEarsUptoRow, standIns := [], harness := (true, "ed35d6bce2db7d23f92fc02395d62219a8c258c44feffb270222de61fc740c03"), looks := false }, kinds := [], alts := [], laidByText := true, laidKinds := [.data], laidTests := true, laidLooks := .later }
def FnEarsUptoCardSaid : Prop := Claim7.holds Tryd.pinned (.plain (OpenSpec.upto fnEarsSpec)) fnEarsUptoCard

/-- THE SECOND FORM's CARD OF 'laws.FnExactFullMinor'. -/
def fnExactFullMinorUptoCard : Claim7 := { stood := { row := fnExactFullMinorUptoRow, standIns := [], harness := (true, "ed35d6bce2db7d23f92fc02395d62219a8c258c44feffb270222de61fc740c03"), looks := false }, kinds := [], alts := [], laidByText := true, laidKinds := [.data], laidTests := true, laidLooks := .later }
def FnExactFullMinorUptoCardSaid : Prop := Claim7.holds Tryd.pinned (.plain (OpenSpec.upto fnExactFullMinorSpec)) fnExactFullMinorUptoCard

/-- THE SECOND FORM's CARD OF 'laws.FnExactModularTree'. -/
def fnExactModularTreeUptoCard : Claim7 := { stood := { row := fnExactModularTreeUptoRow, standIns := [], harness := (true, "ed35d6bce2db7d23f92fc02395d62219a8c258c44feffb270222de61fc740c03"), looks := false }, kinds := [], alts := [], laidByText := true, laidKinds := [.data], laidTests := true, laidLooks := .later }
def FnExactModularTreeUptoCardSaid : Prop := Claim7.holds Tryd.pinned (.plain (OpenSpec.upto fnExactModularTreeSpec)) fnExactModularTreeUptoCard
end Rows
end Go.Proofs.YtplohdnakllbiaaDoor
