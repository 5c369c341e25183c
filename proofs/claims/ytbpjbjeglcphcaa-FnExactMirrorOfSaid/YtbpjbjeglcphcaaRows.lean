/-
  No cell of these rows narrows 'for every input' (looked for: loops, veiled, ifaces, maps, wideKeys, modest, calm, conditions, laid).
  DERIVED. THE GIVEN ROWS OF THIS SEAT. 4 by the template 'for every input the law returns true; each argument reads behind the call as it read before'; 0 by the template 'total and deterministic' (their statements: YtbpjbjeglcphcaaTotals.lean).
  GIVEN WITH THE SEED: the statements are not yours to turn. If you find one false, say at which input.
  Laid BY PROGRAM, IN A SANDBOX (cutbox-rows.mjs): the forced cells as the released guide's own fill.sh prints them over the translation cc560e03bc80da9b… (all of the seat's roots in one cut). By AI agents, Wed Nov 11 2026. No macro, syntax, notation, axiom, sorry.
-/
import Derived.Test.YtbpjbjeglcphcaaChecked
import GoSem.Claim
import GoSem.ClaimJoined
import GoSem.ClaimMapViews
import Derived.JoinedTies
import Derived.KernelRfl
namespace Go.Proofs.Ytbpjbjeglcphcaa
/- THE CELL 'sum', in the pinned program and in every row, IS THE sha256 OF THE DUMP (.gsa) THAT YtbpjbjeglcphcaaProg.lean LOADS. Nothing in Lean hashes anything: it is a label: what it is worth is what the hold of that sum in a sandbox is worth. -/
noncomputable def Try.pinned : Pinned := { name := "ytbpjbjeglcphcaa", sum := "cc560e03bc80da9bb05f2b06f80289de2b1d8f2b3924c615e8958c41ad3f211d", checked := Try.checked }
namespace Rows
def none {H : Type} : Left H := { results := [], args := [] }

/-- 'laws.FnExactAroundOk': WHATEVER THE INPUT: true; the input reads as it did. -/
def fnExactAroundOkSpec : ChangeSpec := { name := "fnExactAroundOk", fn := fun _ => fun
  | [d1, d2] => { results := [.lit (.bool true)], args := [d1, d2] }
  | _ => none }
def fnExactAroundOkRow : OpenClaim := { program := "ytbpjbjeglcphcaa", sum := "cc560e03bc80da9bb05f2b06f80289de2b1d8f2b3924c615e8958c41ad3f211d", func := "loop.example/g00871/laws.FnExactAroundOk", spec := "fnExactAroundOk", unfollowed := true, recurses := true, plainKeys := false, apart := false }
def FnExactAroundOkSaid : Prop := fnExactAroundOkRow.holds Try.pinned (OpenSpec.ofChange fnExactAroundOkSpec)

/-- ITS FALSE NEIGHBOUR: 'it returns false'. Refute it at one input. -/
def fnExactAroundOkWrong : ChangeSpec := { name := "fnExactAroundOk", fn := fun _ => fun
  | [d1, d2] => { results := [.lit (.bool false)], args := [d1, d2] }
  | _ => none }
def FnExactAroundOkWrongFalsely : Prop := fnExactAroundOkRow.holds Try.pinned (OpenSpec.ofChange fnExactAroundOkWrong)

/-- 'laws.FnExactFaceWith': WHATEVER THE INPUT: true; the input reads as it did. -/
def fnExactFaceWithSpec : ChangeSpec := { name := "fnExactFaceWith", fn := fun _ => fun
  | [d1, d2, d3] => { results := [.lit (.bool true)], args := [d1, d2, d3] }
  | _ => none }
def fnExactFaceWithRow : OpenClaim := { program := "ytbpjbjeglcphcaa", sum := "cc560e03bc80da9bb05f2b06f80289de2b1d8f2b3924c615e8958c41ad3f211d", func := "loop.example/g00871/laws.FnExactFaceWith", spec := "fnExactFaceWith", unfollowed := true, recurses := true, plainKeys := false, apart := false }
def FnExactFaceWithSaid : Prop := fnExactFaceWithRow.holds Try.pinned (OpenSpec.ofChange fnExactFaceWithSpec)

/-- ITS FALSE NEIGHBOUR: 'it returns false'. Refute it at one input. -/
def fnExactFaceWithWrong : ChangeSpec := { name := "fnExactFaceWith", fn := fun _ => fun
  | [d1, d2, d3] => { results := [.lit (.bool false)], args := [d1, d2, d3] }
  | _ => none }
def FnExactFaceWithWrongFalsely : Prop := fnExactFaceWithRow.holds Try.pinned (OpenSpec.ofChange fnExactFaceWithWrong)

/-- 'laws.FnExactFacesOf': WHATEVER THE INPUT: true; the input reads as it did. -/
def fnExactFacesOfSpec : ChangeSpec := { name := "fnExactFacesOf", fn := fun _ => fun
  | [d1, d2] => { results := [.lit (.bool true)], args := [d1, d2] }
  | _ => none }
def fnExactFacesOfRow : OpenClaim := { program := "ytbpjbjeglcphcaa", sum := "cc560e03bc80da9bb05f2b06f80289de2b1d8f2b3924c615e8958c41ad3f211d", func := "loop.example/g00871/laws.FnExactFacesOf", spec := "fnExactFacesOf", unfollowed := true, recurses := true, plainKeys := false, apart := false }
def FnExactFacesOfSaid : Prop := fnExactFacesOfRow.holds Try.pinned (OpenSpec.ofChange fnExactFacesOfSpec)

/-- ITS FALSE NEIGHBOUR: 'it returns false'. Refute it at one input. -/
def fnExactFacesOfWrong : ChangeSpec := { name := "fnExactFacesOf", fn := fun _ => fun
  | [d1, d2] => { results := [.lit (.bool false)], args := [d1, d2] }
  | _ => none }
def FnExactFacesOfWrongFalsely : Prop := fnExactFacesOfRow.holds Try.pinned (OpenSpec.ofChange fnExactFacesOfWrong)

/-- 'laws.FnExactMirrorOf': WHATEVER THE INPUT: true; the input reads as it did. -/
def fnExactMirrorOfSpec : ChangeSpec := { name := "fnExactMirrorOf", fn := fun _ => fun
  | [d1, d2] => { results := [.lit (.bool true)], args := [d1, d2] }
  | _ => none }
def fnExactMirrorOfRow : OpenClaim := { program := "ytbpjbjeglcphcaa", sum := "cc560e03bc80da9bb05f2b06f80289de2b1d8f2b3924c615e8958c41ad3f211d", func := "loop.example/g00871/laws.FnExactMirrorOf", spec := "fnExactMirrorOf", unfollowed := true, recurses := true, plainKeys := false, apart := false }
def FnExactMirrorOfSaid : Prop := fnExactMirrorOfRow.holds Try.pinned (OpenSpec.ofChange fnExactMirrorOfSpec)

/-- ITS FALSE NEIGHBOUR: 'it returns false'. Refute it at one input. -/
def fnExactMirrorOfWrong : ChangeSpec := { name := "fnExactMirrorOf", fn := fun _ => fun
  | [d1, d2] => { results := [.lit (.bool false)], args := [d1, d2] }
  | _ => none }
def FnExactMirrorOfWrongFalsely : Prop := fnExactMirrorOfRow.holds Try.pinned (OpenSpec.ofChange fnExactMirrorOfWrong)

/- THE SECOND FORM. 'bulk': how many values and letters a reading holds, each counted each time it is reached (what is shared counts as often as it is met; a slice's spare places count too). A statement '..UptoSaid' is the law's where the arguments, and the package variables that the reading takes, are together of bulk at most 1048576: NARROWER than '..Said'. Prove '..Said' where nothing that the law and all that it calls make is longer than what came in: it says more and counts as full. Else prove '..UptoSaid'. A law counts once. -/
mutual
def uptoBulk {H : Type} : DataW H → Nat
  | .lit (.string bytes) => bytes.length + 1
  | .lit _ => 1
  | .nil => 1
  | .ptr d => uptoBulk d + 1
  | .slice elems spare => uptoBulkAll elems + uptoBulkAll spare + 1
  | .agg parts => uptoBulkAll parts + 1
  | .iface _ d => uptoBulk d + 1
  | .map entries => uptoBulkEntries entries + 1
  | .held _ => 1
def uptoBulkAll {H : Type} : List (DataW H) → Nat
  | [] => 0
  | d :: r => uptoBulk d + uptoBulkAll r
def uptoBulkEntries {H : Type} : List (Lit × DataW H) → Nat
  | [] => 0
  | x :: r => uptoBulkEntry x + uptoBulkEntries r
def uptoBulkEntry {H : Type} : Lit × DataW H → Nat
  | (.string bytes, d) => bytes.length + uptoBulk d + 1
  | (_, d) => uptoBulk d + 1
 end
def uptoSmall : (H : Type) → List (DataW H) → Bool := fun _ ds => decide (uptoBulkAll ds ≤ 1048576)
def OpenSpec.upto (s : _root_.Go.ChangeSpec) : _root_.Go.OpenSpec := { _root_.Go.OpenSpec.ofChange s with cond := some uptoSmall }

/-- 'laws.FnExactAroundOk', WHERE WHAT IT READS IS OF BULK AT MOST 1048576: true; the input reads as it did. -/
def fnExactAroundOkUptoRow : OpenClaim := { program := "ytbpjbjeglcphcaa", sum := "cc560e03bc80da9bb05f2b06f80289de2b1d8f2b3924c615e8958c41ad3f211d", func := "loop.example/g00871/laws.FnExactAroundOk", spec := "fnExactAroundOk", unfollowed := true, recurses := true, plainKeys := false, apart := false, narrowed := true }
def FnExactAroundOkUptoSaid : Prop := fnExactAroundOkUptoRow.holds Try.pinned (OpenSpec.upto fnExactAroundOkSpec)

/-- 'laws.FnExactFaceWith', WHERE WHAT IT READS IS OF BULK AT MOST 1048576: true; the input reads as it did. -/
def fnExactFaceWithUptoRow : OpenClaim := { program := "ytbpjbjeglcphcaa", sum := "cc560e03bc80da9bb05f2b06f80289de2b1d8f2b3924c615e8958c41ad3f211d", func := "loop.example/g00871/laws.FnExactFaceWith", spec := "fnExactFaceWith", unfollowed := true, recurses := true, plainKeys := false, apart := false, narrowed := true }
def FnExactFaceWithUptoSaid : Prop := fnExactFaceWithUptoRow.holds Try.pinned (OpenSpec.upto fnExactFaceWithSpec)

/-- 'laws.FnExactFacesOf', WHERE WHAT IT READS IS OF BULK AT MOST 1048576: true; the input reads as it did. -/
def fnExactFacesOfUptoRow : OpenClaim := { program := "ytbpjbjeglcphcaa", sum := "cc560e03bc80da9bb05f2b06f80289de2b1d8f2b3924c615e8958c41ad3f211d", func := "loop.example/g00871/laws.FnExactFacesOf", spec := "fnExactFacesOf", unfollowed := true, recurses := true, plainKeys := false, apart := false, narrowed := true }
def FnExactFacesOfUptoSaid : Prop := fnExactFacesOfUptoRow.holds Try.pinned (OpenSpec.upto fnExactFacesOfSpec)

/-- 'laws.FnExactMirrorOf', WHERE WHAT IT READS IS OF BULK AT MOST 1048576: true; the input reads as it did. -/
def fnExactMirrorOfUptoRow : OpenClaim := { program := "ytbpjbjeglcphcaa", sum := "cc560e03bc80da9bb05f2b06f80289de2b1d8f2b3924c615e8958c41ad3f211d", func := "loop.example/g00871/laws.FnExactMirrorOf", spec := "fnExactMirrorOf", unfollowed := true, recurses := true, plainKeys := false, apart := false, narrowed := true }
def FnExactMirrorOfUptoSaid : Prop := fnExactMirrorOfUptoRow.holds Try.pinned (OpenSpec.upto fnExactMirrorOfSpec)

end Rows
end Go.Proofs.Ytbpjbjeglcphcaa
