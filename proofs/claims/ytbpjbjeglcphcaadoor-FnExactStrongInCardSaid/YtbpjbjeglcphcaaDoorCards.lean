/-
  DERIVED. GIVEN WITH THE SEED: THE CARDS: each row of YtbpjbjeglcphcaaDoorRows.lean that lists a variable, with what it lists TIED to the program's text (the seventh form; the later family's looks); each row that meets fmt, with fmt's text TOLD by the authors' own Lean function (tested against real Go, not proved from fmt's source: count such statements apart). THE CARD IS WHAT COUNTS. Prove the row's statement (the work); the ties are given (YtbpjbjeglcphcaaDoorTie.lean); close each card by the builder's one call (the guide's Derived/Test/ToyasCard.lean, 'card_holds'). Laid BY PROGRAM, IN A SANDBOX (cutbox-door.mjs). By AI agents, Wed Nov 11 2026. No macro, syntax, notation, axiom, sorry.
-/
import Derived.Test.YtbpjbjeglcphcaaDoorRows
import GoSem.ClaimSeven
namespace Go.Proofs.YtbpjbjeglcphcaaDoor
namespace Rows

/-- THE TIED CARD OF 'laws.FnExactStrongIn'. -/
def fnExactStrongInCard : Claim7 := { stood := { row := fnExactStrongInRow, standIns := [], harness := (true, "a9d7e4c39e8eee413d4db563a578b69d25560b7e2628de679af273e8ff7dbe85"), looks := false }, kinds := [], alts := [], laidByText := true, laidKinds := [.data], laidTests := true, laidLooks := .later }
def FnExactStrongInCardSaid : Prop := Claim7.holds Tryd.pinned (.plain (OpenSpec.ofChange fnExactStrongInSpec)) fnExactStrongInCard

/-- THE SECOND FORM's CARD OF 'laws.FnExactStrongIn'. -/
def fnExactStrongInUptoCard : Claim7 := { stood := { row := fnExactStrongInUptoRow, standIns := [], harness := (true, "a9d7e4c39e8eee413d4db563a578b69d25560b7e2628de679af273e8ff7dbe85"), looks := false }, kinds := [], alts := [], laidByText := true, laidKinds := [.data], laidTests := true, laidLooks := .later }
def FnExactStrongInUptoCardSaid : Prop := Claim7.holds Tryd.pinned (.plain (OpenSpec.upto fnExactStrongInSpec)) fnExactStrongInUptoCard
end Rows
end Go.Proofs.YtbpjbjeglcphcaaDoor
