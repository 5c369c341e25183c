/-
  DERIVED. GIVEN WITH THE SEED: THE CARDS: each row of YtdbanndcdbikmaaDoorRows.lean that lists a variable, with what it lists TIED to the program's text (the seventh form; the later family's looks); each row that meets fmt, with fmt's text TOLD by the authors' own Lean function (tested against real Go, not proved from fmt's source: count such statements apart). THE CARD IS WHAT COUNTS. Prove the row's statement (the work); the ties are given (YtdbanndcdbikmaaDoorTie.lean); close each card by the builder's one call (the guide's Derived/Test/ToyasCard.lean, 'card_holds'). Laid BY PROGRAM, IN A SANDBOX (cutbox-door.mjs). By AI agents, Wed Nov 11 2026. No macro, syntax, notation, axiom, sorry.
-/
import Derived.Test.YtdbanndcdbikmaaDoorRows
import GoSem.ClaimSeven
namespace Go.Proofs.YtdbanndcdbikmaaDoor
namespace Rows

/-- THE TIED CARD OF 'laws.FnExactEmbeddingsMany'. -/
def fnExactEmbeddingsManyCard : Claim7 := { stood := { row := fnExactEmbeddingsManyRow, standIns := [], harness := (true, "d6e8efc37d82905df6f059f4c821114acea65f90a6d656a16793d33c11d9faf5"), looks := false }, kinds := [], alts := [], laidByText := true, laidKinds := [.data], laidTests := true, laidLooks := .later }
def FnExactEmbeddingsManyCardSaid : Prop := Claim7.holds Tryd.pinned (.plain (OpenSpec.ofChange fnExactEmbeddingsManySpec)) fnExactEmbeddingsManyCard

/-- THE SECOND FORM's CARD OF 'laws.FnExactEmbeddingsMany'. -/
def fnExactEmbeddingsManyUptoCard : Claim7 := { stood := { row := fnExactEmbeddingsManyUptoRow, standIns := [], harness := (true, "d6e8efc37d82905df6f059f4c821114acea65f90a6d656a16793d33c11d9faf5"), looks := false }, kinds := [], alts := [], laidByText := true, laidKinds := [.data], laidTests := true, laidLooks := .later }
def FnExactEmbeddingsManyUptoCardSaid : Prop := Claim7.holds Tryd.pinned (.plain (OpenSpec.upto fnExactEmbeddingsManySpec)) fnExactEmbeddingsManyUptoCard
end Rows
end Go.Proofs.YtdbanndcdbikmaaDoor
