/-
  DERIVED. GIVEN WITH THE SEED: THE CARDS: each row of YtkgnobiihmljfaaGreatDoorRows.lean that lists a variable, with what it lists TIED to the program's text (the seventh form; the later family's looks); each row that meets fmt, with fmt's text TOLD by the authors' own Lean function (tested against real Go, not proved from fmt's source: count such statements apart). THE CARD IS WHAT COUNTS. Prove the row's statement (the work); the ties are given (YtkgnobiihmljfaaGreatDoorTie.lean); close each card by the builder's one call (the guide's Derived/Test/ToyasCard.lean, 'card_holds'). Laid BY PROGRAM, IN A SANDBOX (cutbox-door.mjs). By AI agents, Wed Nov 11 2026. No macro, syntax, notation, axiom, sorry.
-/
import Derived.Test.YtkgnobiihmljfaaGreatDoorRows
import GoSem.ClaimSeven
namespace Go.Proofs.YtkgnobiihmljfaaGreatDoor
namespace Rows

/-- THE TIED CARD OF 'laws.FnExactPlanarBy'. -/
def fnExactPlanarByCard : Claim7 := { stood := { row := fnExactPlanarByRow, standIns := [], harness := (true, "4bd3c76e4042a7481d42947a447b60bf326744eb9aa5434fdd04ba7887b4e2f4"), looks := false }, kinds := [], alts := [], laidByText := true, laidKinds := [.data], laidTests := true, laidLooks := .later }
def FnExactPlanarByCardSaid : Prop := Claim7.holds Tryz.pinned (.plain (OpenSpec.ofChange fnExactPlanarBySpec)) fnExactPlanarByCard

/-- THE TIED CARD OF 'laws.FnExactGenusOf'. -/
def fnExactGenusOfCard : Claim7 := { stood := { row := fnExactGenusOfRow, standIns := [], harness := (true, "4bd3c76e4042a7481d42947a447b60bf326744eb9aa5434fdd04ba7887b4e2f4"), looks := false }, kinds := [], alts := [], laidByText := true, laidKinds := [.data], laidTests := true, laidLooks := .later }
def FnExactGenusOfCardSaid : Prop := Claim7.holds Tryz.pinned (.plain (OpenSpec.ofChange fnExactGenusOfSpec)) fnExactGenusOfCard

/-- THE TIED CARD OF 'laws.FnExactEmbeddingOf'. -/
def fnExactEmbeddingOfCard : Claim7 := { stood := { row := fnExactEmbeddingOfRow, standIns := [], harness := (true, "4bd3c76e4042a7481d42947a447b60bf326744eb9aa5434fdd04ba7887b4e2f4"), looks := false }, kinds := [], alts := [], laidByText := true, laidKinds := [.data], laidTests := true, laidLooks := .later }
def FnExactEmbeddingOfCardSaid : Prop := Claim7.holds Tryz.pinned (.plain (OpenSpec.ofChange fnExactEmbeddingOfSpec)) fnExactEmbeddingOfCard

/-- THE TIED CARD OF 'laws.FnFaces'. -/
def fnFacesCard : Claim7 := { stood := { row := fnFacesRow, standIns := [], harness := (true, "4bd3c76e4042a7481d42947a447b60bf326744eb9aa5434fdd04ba7887b4e2f4"), looks := false }, kinds := [], alts := [], laidByText := true, laidKinds := [.data], laidTests := true, laidLooks := .later }
def FnFacesCardSaid : Prop := Claim7.holds Tryz.pinned (.plain (OpenSpec.ofChange fnFacesSpec)) fnFacesCard

/-- THE SECOND FORM's CARD OF 'laws.FnExactPlanarBy'. -/
def fnExactPlanarByUptoCard : Claim7 := { stood := { row := fnExactPlanarByUptoRow, standIns := [], harness := (true, "4bd3c76e4042a7481d42947a447b60bf326744eb9aa5434fdd04ba7887b4e2f4"), looks := false }, kinds := [], alts := [], laidByText := true, laidKinds := [.data], laidTests := true, laidLooks := .later }
def FnExactPlanarByUptoCardSaid : Prop := Claim7.holds Tryz.pinned (.plain (OpenSpec.upto fnExactPlanarBySpec)) fnExactPlanarByUptoCard

/-- THE SECOND FORM's CARD OF 'laws.FnExactGenusOf'. -/
def fnExactGenusOfUptoCard : Claim7 := { stood := { row := fnExactGenusOfUptoRow, standIns := [], harness := (true, "4bd3c76e4042a7481d42947a447b60bf326744eb9aa5434fdd04ba7887b4e2f4"), looks := false }, kinds := [], alts := [], laidByText := true, laidKinds := [.data], laidTests := true, laidLooks := .later }
def FnExactGenusOfUptoCardSaid : Prop := Claim7.holds Tryz.pinned (.plain (OpenSpec.upto fnExactGenusOfSpec)) fnExactGenusOfUptoCard

/-- THE SECOND FORM's CARD OF 'laws.FnExactEmbeddingOf'. -/
def fnExactEmbeddingOfUptoCard : Claim7 := { stood := { row := fnExactEmbeddingOfUptoRow, standIns := [], harness := (true, "4bd3c76e4042a7481d42947a447b60bf326744eb9aa5434fdd04ba7887b4e2f4"), looks := false }, kinds := [], alts := [], laidByText := true, laidKinds := [.data], laidTests := true, laidLooks := .later }
def FnExactEmbeddingOfUptoCardSaid : Prop := Claim7.holds Tryz.pinned (.plain (OpenSpec.upto fnExactEmbeddingOfSpec)) fnExactEmbeddingOfUptoCard

/-- THE SECOND FORM's CARD OF 'laws.FnFaces'. -/
def fnFacesUptoCard : Claim7 := { stood := { row := fnFacesUptoRow, standIns := [], harness := (true, "4bd3c76e4042a7481d42947a447b60bf326744eb9aa5434fdd04ba7887b4e2f4"), looks := false }, kinds := [], alts := [], laidByText := true, laidKinds := [.data], laidTests := true, laidLooks := .later }
def FnFacesUptoCardSaid : Prop := Claim7.holds Tryz.pinned (.plain (OpenSpec.upto fnFacesSpec)) fnFacesUptoCard
end Rows
end Go.Proofs.YtkgnobiihmljfaaGreatDoor
