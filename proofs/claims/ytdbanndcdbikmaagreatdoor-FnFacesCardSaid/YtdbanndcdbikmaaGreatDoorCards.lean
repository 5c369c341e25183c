/-
  DERIVED. GIVEN WITH THE SEED: THE CARDS: each row of YtdbanndcdbikmaaGreatDoorRows.lean that lists a variable, with what it lists TIED to the program's text (the seventh form; the later family's looks); each row that meets fmt, with fmt's text TOLD by the authors' own Lean function (tested against real Go, not proved from fmt's source: count such statements apart). THE CARD IS WHAT COUNTS. Prove the row's statement (the work); the ties are given (YtdbanndcdbikmaaGreatDoorTie.lean); close each card by the builder's one call (the guide's Derived/Test/ToyasCard.lean, 'card_holds'). Laid BY PROGRAM, IN A SANDBOX (cutbox-door.mjs). By AI agents, Wed Nov 11 2026. No macro, syntax, notation, axiom, sorry.
-/
import Derived.Test.YtdbanndcdbikmaaGreatDoorRows
import GoSem.ClaimSeven
namespace Go.Proofs.YtdbanndcdbikmaaGreatDoor
namespace Rows

/-- THE TIED CARD OF 'laws.FnFaces'. -/
def fnFacesCard : Claim7 := { stood := { row := fnFacesRow, standIns := [], harness := (true, "4d5c5ef121f93814148d228f02bf3fae7892551caab777e59a6fe77286cbcfc5"), looks := false }, kinds := [], alts := [], laidByText := true, laidKinds := [.data], laidTests := true, laidLooks := .later }
def FnFacesCardSaid : Prop := Claim7.holds Tryz.pinned (.plain (OpenSpec.ofChange fnFacesSpec)) fnFacesCard

/-- THE TIED CARD OF 'laws.FnExactEmbeddingOf'. -/
def fnExactEmbeddingOfCard : Claim7 := { stood := { row := fnExactEmbeddingOfRow, standIns := [], harness := (true, "4d5c5ef121f93814148d228f02bf3fae7892551caab777e59a6fe77286cbcfc5"), looks := false }, kinds := [], alts := [], laidByText := true, laidKinds := [.data], laidTests := true, laidLooks := .later }
def FnExactEmbeddingOfCardSaid : Prop := Claim7.holds Tryz.pinned (.plain (OpenSpec.ofChange fnExactEmbeddingOfSpec)) fnExactEmbeddingOfCard

/-- THE SECOND FORM's CARD OF 'laws.FnFaces'. -/
def fnFacesUptoCard : Claim7 := { stood := { row := fnFacesUptoRow, standIns := [], harness := (true, "4d5c5ef121f93814148d228f02bf3fae7892551caab777e59a6fe77286cbcfc5"), looks := false }, kinds := [], alts := [], laidByText := true, laidKinds := [.data], laidTests := true, laidLooks := .later }
def FnFacesUptoCardSaid : Prop := Claim7.holds Tryz.pinned (.plain (OpenSpec.upto fnFacesSpec)) fnFacesUptoCard

/-- THE SECOND FORM's CARD OF 'laws.FnExactEmbeddingOf'. -/
def fnExactEmbeddingOfUptoCard : Claim7 := { stood := { row := fnExactEmbeddingOfUptoRow, standIns := [], harness := (true, "4d5c5ef121f93814148d228f02bf3fae7892551caab777e59a6fe77286cbcfc5"), looks := false }, kinds := [], alts := [], laidByText := true, laidKinds := [.data], laidTests := true, laidLooks := .later }
def FnExactEmbeddingOfUptoCardSaid : Prop := Claim7.holds Tryz.pinned (.plain (OpenSpec.upto fnExactEmbeddingOfSpec)) fnExactEmbeddingOfUptoCard
end Rows
end Go.Proofs.YtdbanndcdbikmaaGreatDoor
