/-
  DERIVED. GIVEN WITH THE SEED: THE CARDS: each row of YtbpjbjeglcphcaaGreatDoorRows.lean that lists a variable, with what it lists TIED to the program's text (the seventh form; the later family's looks); each row that meets fmt, with fmt's text TOLD by the authors' own Lean function (tested against real Go, not proved from fmt's source: count such statements apart). THE CARD IS WHAT COUNTS. Prove the row's statement (the work); the ties are given (YtbpjbjeglcphcaaGreatDoorTie.lean); close each card by the builder's one call (the guide's Derived/Test/ToyasCard.lean, 'card_holds'). Laid BY PROGRAM, IN A SANDBOX (cutbox-door.mjs). By AI agents, Wed Nov 11 2026. No macro, syntax, notation, axiom, sorry.
-/
import Derived.Test.YtbpjbjeglcphcaaGreatDoorRows
import GoSem.ClaimSeven
namespace Go.Proofs.YtbpjbjeglcphcaaGreatDoor
namespace Rows

/-- THE TIED CARD OF 'laws.FnExactGenusOf'. -/
def fnExactGenusOfCard : Claim7 := { stood := { row := fnExactGenusOfRow, standIns := [], harness := (true, "77ad620882f98eae58fdc17209d29504a472133b82ddc5234913cb0e6684568e"), looks := false }, kinds := [], alts := [], laidByText := true, laidKinds := [.data], laidTests := true, laidLooks := .later }
def FnExactGenusOfCardSaid : Prop := Claim7.holds Tryz.pinned (.plain (OpenSpec.ofChange fnExactGenusOfSpec)) fnExactGenusOfCard

/-- THE TIED CARD OF 'laws.FnExactPlanarBy'. -/
def fnExactPlanarByCard : Claim7 := { stood := { row := fnExactPlanarByRow, standIns := [], harness := (true, "77ad620882f98eae58fdc17209d29504a472133b82ddc5234913cb0e6684568e"), looks := false }, kinds := [], alts := [], laidByText := true, laidKinds := [.data], laidTests := true, laidLooks := .later }
def FnExactPlanarByCardSaid : Prop := Claim7.holds Tryz.pinned (.plain (OpenSpec.ofChange fnExactPlanarBySpec)) fnExactPlanarByCard

/-- THE TIED CARD OF 'laws.FnFaces'. -/
def fnFacesCard : Claim7 := { stood := { row := fnFacesRow, standIns := [], harness := (true, "77ad620882f98eae58fdc17209d29504a472133b82ddc5234913cb0e6684568e"), looks := false }, kinds := [], alts := [], laidByText := true, laidKinds := [.data], laidTests := true, laidLooks := .later }
def FnFacesCardSaid : Prop := Claim7.holds Tryz.pinned (.plain (OpenSpec.ofChange fnFacesSpec)) fnFacesCard

/-- THE SECOND FORM's CARD OF 'laws.FnExactGenusOf'. -/
def fnExactGenusOfUptoCard : Claim7 := { stood := { row := fnExactGenusOfUptoRow, standIns := [], harness := (true, "77ad620882f98eae58fdc17209d29504a472133b82ddc5234913cb0e6684568e"), looks := false }, kinds := [], alts := [], laidByText := true, laidKinds := [.data], laidTests := true, laidLooks := .later }
def FnExactGenusOfUptoCardSaid : Prop := Claim7.holds Tryz.pinned (.plain (OpenSpec.upto fnExactGenusOfSpec)) fnExactGenusOfUptoCard

/-- THE SECOND FORM's CARD OF 'laws.FnExactPlanarBy'. -/
def fnExactPlanarByUptoCard : Claim7 := { stood := { row := fnExactPlanarByUptoRow, standIns := [], harness := (true, "77ad620882f98eae58fdc17209d29504a472133b82ddc5234913cb0e6684568e"), looks := false }, kinds := [], alts := [], laidByText := true, laidKinds := [.data], laidTests := true, laidLooks := .later }
def FnExactPlanarByUptoCardSaid : Prop := Claim7.holds Tryz.pinned (.plain (OpenSpec.upto fnExactPlanarBySpec)) fnExactPlanarByUptoCard

/-- THE SECOND FORM's CARD OF 'laws.FnFaces'. -/
def fnFacesUptoCard : Claim7 := { stood := { row := fnFacesUptoRow, standIns := [], harness := (true, "77ad620882f98eae58fdc17209d29504a472133b82ddc5234913cb0e6684568e"), looks := false }, kinds := [], alts := [], laidByText := true, laidKinds := [.data], laidTests := true, laidLooks := .later }
def FnFacesUptoCardSaid : Prop := Claim7.holds Tryz.pinned (.plain (OpenSpec.upto fnFacesSpec)) fnFacesUptoCard
end Rows
end Go.Proofs.YtbpjbjeglcphcaaGreatDoor
