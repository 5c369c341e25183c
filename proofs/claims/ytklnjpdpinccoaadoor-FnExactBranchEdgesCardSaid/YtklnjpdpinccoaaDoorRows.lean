/-
  NARROWER THAN 'FOR EVERY INPUT', by the rows' own cells (each row's printed sentence says how): FnExactBridgesOf: laid · FnExactStrongIn: laid · FnExactBranchEdges: laid · FnExactModularTree: laid · FnExactModTreeOk: laid · FnExactBlocksAt: laid · FnExactChordlessLoop: laid.
  DERIVED. THE GIVEN ROWS OF THIS SEAT. 7 by the template 'for every input the law returns true; each argument reads behind the call as it read before'; 0 by the template 'total and deterministic' (their statements: YtklnjpdpinccoaaDoorTotals.lean).
  GIVEN WITH THE SEED: the statements are not yours to turn. If you find one false, say at which input.
  Laid BY PROGRAM, IN A SANDBOX (cutbox-rows.mjs): the forced cells as the released guide's own fill.sh prints them over the translation 9538a6271ccfcebf… (all of the seat's roots in one cut). By AI agents, Wed Nov 11 2026. No macro, syntax, notation, axiom, sorry.
-/
import Derived.Test.YtklnjpdpinccoaaDoorChecked
import GoSem.Claim
import GoSem.ClaimJoined
import GoSem.ClaimMapViews
import Derived.JoinedTies
import Derived.KernelRfl
namespace Go.Proofs.YtklnjpdpinccoaaDoor
/- THE CELL 'sum', in the pinned program and in every row, IS THE sha256 OF THE DUMP (.gsa) THAT YtklnjpdpinccoaaDoorProg.lean LOADS. Nothing in Lean hashes anything: it is a label: what it is worth is what the hold of that sum in a sandbox is worth. -/
noncomputable def Tryd.pinned : Pinned := { name := "ytklnjpdpinccoaadoor", sum := "9538a6271ccfcebfa94d7a5784aaa983a9ec33919cf32e9ba9acbb94ca55b64b", checked := Tryd.checked }
namespace Rows
def none {H : Type} : Left H := { results := [], args := [] }

/- WHAT THE LISTED PACKAGE-LEVEL VARIABLES READ AS WHEN THE CALL BEGINS. Each datum BY PROGRAM (the guide's laid-datum.mjs) off the statement by which the dump's own 'gosem.cut.vars' lays the variable. In a bare row this is a premise. The card (YtklnjpdpinccoaaDoorCards.lean) ties it to the program's text. -/
def laid_math_bits_deBruijn32tab {H : Type} : DataW H := .agg [.lit (.int .u8 0), .lit (.int .u8 1), .lit (.int .u8 28), .lit (.int .u8 2), .lit (.int .u8 29), .lit (.int .u8 14), .lit (.int .u8 24), .lit (.int .u8 3), .lit (.int .u8 30), .lit (.int .u8 22), .lit (.int .u8 20), .lit (.int .u8 15), .lit (.int .u8 25), .lit (.int .u8 17), .lit (.int .u8 4), .lit (.int .u8 8), .lit (.int .u8 31), .lit (.int .u8 27), .lit (.int .u8 13), .lit (.int .u8 23), .lit (.int .u8 21), .lit (.int .u8 19), .lit (.int .u8 16), .lit (.int .u8 7), .lit (.int .u8 26), .lit (.int .u8 12), .lit (.int .u8 18), .lit (.int .u8 6), .lit (.int .u8 11), .lit (.int .u8 5), .lit (.int .u8 10), .lit (.int .u8 9)]

/-- 'laws.FnExactBridgesOf': WHATEVER THE INPUT: true; the input reads as it did. -/
def fnExactBridgesOfSpec : ChangeSpec := { name := "fnExactBridgesOf", fn := fun _ => fun
  | [d] => { results := [.lit (.bool true)], args := [d] }
  | _ => none }
def fnExactBridgesOfRow : OpenClaim := { program := "ytklnjpdpinccoaadoor", sum := "9538a6271ccfcebfa94d7a5784aaa983a9ec33919cf32e9ba9acbb94ca55b64b", func := "loop.example/g00871/laws.FnExactBridgesOf", spec := "fnExactBridgesOf", named := ["math/bits.deBruijn32tab"], apart := false, laid := [("math/bits.deBruijn32tab", laid_math_bits_deBruijn32tab)] }
def FnExactBridgesOfSaid : Prop := fnExactBridgesOfRow.holds Tryd.pinned (OpenSpec.ofChange fnExactBridgesOfSpec)

/-- ITS FALSE NEIGHBOUR: 'it returns false'. Refute it at one input. -/
def fnExactBridgesOfWrong : ChangeSpec := { name := "fnExactBridgesOf", fn := fun _ => fun
  | [d] => { results := [.lit (.bool false)], args := [d] }
  | _ => none }
def FnExactBridgesOfWrongFalsely : Prop := fnExactBridgesOfRow.holds Tryd.pinned (OpenSpec.ofChange fnExactBridgesOfWrong)

/-- 'laws.FnExactStrongIn': WHATEVER THE INPUT: true; the input reads as it did. -/
def fnExactStrongInSpec : ChangeSpec := { name := "fnExactStrongIn", fn := fun _ => fun
  | [d1, d2] => { results := [.lit (.bool true)], args := [d1, d2] }
  | _ => none }
def fnExactStrongInRow : OpenClaim := { program := "ytklnjpdpinccoaadoor", sum := "9538a6271ccfcebfa94d7a5784aaa983a9ec33919cf32e9ba9acbb94ca55b64b", func := "loop.example/g00871/laws.FnExactStrongIn", spec := "fnExactStrongIn", unfollowed := true, recurses := true, named := ["math/bits.deBruijn32tab"], apart := false, laid := [("math/bits.deBruijn32tab", laid_math_bits_deBruijn32tab)] }
def FnExactStrongInSaid : Prop := fnExactStrongInRow.holds Tryd.pinned (OpenSpec.ofChange fnExactStrongInSpec)

/-- ITS FALSE NEIGHBOUR: 'it returns false'. Refute it at one input. -/
def fnExactStrongInWrong : ChangeSpec := { name := "fnExactStrongIn", fn := fun _ => fun
  | [d1, d2] => { results := [.lit (.bool false)], args := [d1, d2] }
  | _ => none }
def FnExactStrongInWrongFalsely : Prop := fnExactStrongInRow.holds Tryd.pinned (OpenSpec.ofChange fnExactStrongInWrong)

/-- 'laws.FnExactBranchEdges': WHATEVER THE INPUT: true; the input reads as it did. -/
def fnExactBranchEdgesSpec : ChangeSpec := { name := "fnExactBranchEdges", fn := fun _ => fun
  | [d1, d2, d3] => { results := [.lit (.bool true)], args := [d1, d2, d3] }
  | _ => none }
def fnExactBranchEdgesRow : OpenClaim := { program := "ytklnjpdpinccoaadoor", sum := "9538a6271ccfcebfa94d7a5784aaa983a9ec33919cf32e9ba9acbb94ca55b64b", func := "loop.example/g00871/laws.FnExactBranchEdges", spec := "fnExactBranchEdges", unfollowed := true, recurses := true, named := ["math/bits.deBruijn32tab"], apart := false, laid := [("math/bits.deBruijn32tab", laid_math_bits_deBruijn32tab)] }
def FnExactBranchEdgesSaid : Prop := fnExactBranchEdgesRow.holds Tryd.pinned (OpenSpec.ofChange fnExactBranchEdgesSpec)

/-- ITS FALSE NEIGHBOUR: 'it returns false'. Refute it at one input. -/
def fnExactBranchEdgesWrong : ChangeSpec := { name := "fnExactBranchEdges", fn := fun _ => fun
  | [d1, d2, d3] => { results := [.lit (.bool false)], args := [d1, d2, d3] }
  | _ => none }
def FnExactBranchEdgesWrongFalsely : Prop := fnExactBranchEdgesRow.holds Tryd.pinned (OpenSpec.ofChange fnExactBranchEdgesWrong)

/-- 'laws.FnExactModularTree': WHATEVER THE INPUT: true; the input reads as it did. -/
def fnExactModularTreeSpec : ChangeSpec := { name := "fnExactModularTree", fn := fun _ => fun
  | [d] => { results := [.lit (.bool true)], args := [d] }
  | _ => none }
def fnExactModularTreeRow : OpenClaim := { program := "ytklnjpdpinccoaadoor", sum := "9538a6271ccfcebfa94d7a5784aaa983a9ec33919cf32e9ba9acbb94ca55b64b", func := "loop.example/g00871/laws.FnExactModularTree", spec := "fnExactModularTree", recurses := true, named := ["math/bits.deBruijn32tab"], apart := false, laid := [("math/bits.deBruijn32tab", laid_math_bits_deBruijn32tab)] }
def FnExactModularTreeSaid : Prop := fnExactModularTreeRow.holds Tryd.pinned (OpenSpec.ofChange fnExactModularTreeSpec)

/-- ITS FALSE NEIGHBOUR: 'it returns false'. Refute it at one input. -/
def fnExactModularTreeWrong : ChangeSpec := { name := "fnExactModularTree", fn := fun _ => fun
  | [d] => { results := [.lit (.bool false)], args := [d] }
  | _ => none }
def FnExactModularTreeWrongFalsely : Prop := fnExactModularTreeRow.holds Tryd.pinned (OpenSpec.ofChange fnExactModularTreeWrong)

/-- 'laws.FnExactModTreeOk': WHATEVER THE INPUT: true; the input reads as it did. -/
def fnExactModTreeOkSpec : ChangeSpec := { name := "fnExactModTreeOk", fn := fun _ => fun
  | [d1, d2] => { results := [.lit (.bool true)], args := [d1, d2] }
  | _ => none }
def fnExactModTreeOkRow : OpenClaim := { program := "ytklnjpdpinccoaadoor", sum := "9538a6271ccfcebfa94d7a5784aaa983a9ec33919cf32e9ba9acbb94ca55b64b", func := "loop.example/g00871/laws.FnExactModTreeOk", spec := "fnExactModTreeOk", unfollowed := true, recurses := true, named := ["math/bits.deBruijn32tab"], apart := false, laid := [("math/bits.deBruijn32tab", laid_math_bits_deBruijn32tab)] }
def FnExactModTreeOkSaid : Prop := fnExactModTreeOkRow.holds Tryd.pinned (OpenSpec.ofChange fnExactModTreeOkSpec)

/-- ITS FALSE NEIGHBOUR: 'it returns false'. Refute it at one input. -/
def fnExactModTreeOkWrong : ChangeSpec := { name := "fnExactModTreeOk", fn := fun _ => fun
  | [d1, d2] => { results := [.lit (.bool false)], args := [d1, d2] }
  | _ => none }
def FnExactModTreeOkWrongFalsely : Prop := fnExactModTreeOkRow.holds Tryd.pinned (OpenSpec.ofChange fnExactModTreeOkWrong)

/-- 'laws.FnExactBlocksAt': WHATEVER THE INPUT: true; the input reads as it did. -/
def fnExactBlocksAtSpec : ChangeSpec := { name := "fnExactBlocksAt", fn := fun _ => fun
  | [d1, d2] => { results := [.lit (.bool true)], args := [d1, d2] }
  | _ => none }
def fnExactBlocksAtRow : OpenClaim := { program := "ytklnjpdpinccoaadoor", sum := "9538a6271ccfcebfa94d7a5784aaa983a9ec33919cf32e9ba9acbb94ca55b64b", func := "loop.example/g00871/laws.FnExactBlocksAt", spec := "fnExactBlocksAt", unfollowed := true, recurses := true, named := ["math/bits.deBruijn32tab"], apart := false, laid := [("math/bits.deBruijn32tab", laid_math_bits_deBruijn32tab)] }
def FnExactBlocksAtSaid : Prop := fnExactBlocksAtRow.holds Tryd.pinned (OpenSpec.ofChange fnExactBlocksAtSpec)

/-- ITS FALSE NEIGHBOUR: 'it returns false'. Refute it at one input. -/
def fnExactBlocksAtWrong : ChangeSpec := { name := "fnExactBlocksAt", fn := fun _ => fun
  | [d1, d2] => { results := [.lit (.bool false)], args := [d1, d2] }
  | _ => none }
def FnExactBlocksAtWrongFalsely : Prop := fnExactBlocksAtRow.holds Tryd.pinned (OpenSpec.ofChange fnExactBlocksAtWrong)

/-- 'laws.FnExactChordlessLoop': WHATEVER THE INPUT: true; the input reads as it did. -/
def fnExactChordlessLoopSpec : ChangeSpec := { name := "fnExactChordlessLoop", fn := fun _ => fun
  | [d] => { results := [.lit (.bool true)], args := [d] }
  | _ => none }
def fnExactChordlessLoopRow : OpenClaim := { program := "ytklnjpdpinccoaadoor", sum := "9538a6271ccfcebfa94d7a5784aaa983a9ec33919cf32e9ba9acbb94ca55b64b", func := "loop.example/g00871/laws.FnExactChordlessLoop", spec := "fnExactChordlessLoop", unfollowed := true, recurses := true, named := ["math/bits.deBruijn32tab"], apart := false, laid := [("math/bits.deBruijn32tab", laid_math_bits_deBruijn32tab)] }
def FnExactChordlessLoopSaid : Prop := fnExactChordlessLoopRow.holds Tryd.pinned (OpenSpec.ofChange fnExactChordlessLoopSpec)

/-- ITS FALSE NEIGHBOUR: 'it returns false'. Refute it at one input. -/
def fnExactChordlessLoopWrong : ChangeSpec := { name := "fnExactChordlessLoop", fn := fun _ => fun
  | [d] => { results := [.lit (.bool false)], args := [d] }
  | _ => none }
def FnExactChordlessLoopWrongFalsely : Prop := fnExactChordlessLoopRow.holds Tryd.pinned (OpenSpec.ofChange fnExactChordlessLoopWrong)

/- THE SECOND FORM. 'bulk': how many values and letters a reading holds, each counted each time it is reached (what is shared counts as often as it is met; a slice's spare places count too). A statement '..UptoSaid' is the law's where the arguments, and the package variables that the reading takes, are together of bulk at most 1048576: NARROWER than '..Said'. Prove '..Said' where nothing that the law and all that it calls make is longer than what came in: it says more and counts as full. Else prove '..UptoSaid'. A law counts once. -/
mutual
def uptoBulk {H : Type} : DataW H → Nat
  | .lit (.string bytes) => bytes.length + 1
  | .lit _ => 1
  | .nil => 1
  | .ptr d => uptoBulk d + 1
  | .slice elems spare => uptoBulkAll elems + uptoBulkAll spare + 1
  | .agg parts => uptoBulkAll parts + 1
  | .iface _ d => uptoBulk d + 1
  | .map entries => uptoBulkEntries entries + 1
  | .held _ => 1
def uptoBulkAll {H : Type} : List (DataW H) → Nat
  | [] => 0
  | d :: r => uptoBulk d + uptoBulkAll r
def uptoBulkEntries {H : Type} : List (Lit × DataW H) → Nat
  | [] => 0
  | x :: r => uptoBulkEntry x + uptoBulkEntries r
def uptoBulkEntry {H : Type} : Lit × DataW H → Nat
  | (.string bytes, d) => bytes.length + uptoBulk d + 1
  | (_, d) => uptoBulk d + 1
 end
def uptoSmall : (H : Type) → List (DataW H) → Bool := fun _ ds => decide (uptoBulkAll ds ≤ 1048576)
def OpenSpec.upto (s : _root_.Go.ChangeSpec) : _root_.Go.OpenSpec := { _root_.Go.OpenSpec.ofChange s with cond := some uptoSmall }

/-- 'laws.FnExactBridgesOf', WHERE WHAT IT READS IS OF BULK AT MOST 1048576: true; the input reads as it did. -/
def fnExactBridgesOfUptoRow : OpenClaim := { program := "ytklnjpdpinccoaadoor", sum := "9538a6271ccfcebfa94d7a5784aaa983a9ec33919cf32e9ba9acbb94ca55b64b", func := "loop.example/g00871/laws.FnExactBridgesOf", spec := "fnExactBridgesOf", named := ["math/bits.deBruijn32tab"], apart := false, laid := [("math/bits.deBruijn32tab", laid_math_bits_deBruijn32tab)], narrowed := true }
def FnExactBridgesOfUptoSaid : Prop := fnExactBridgesOfUptoRow.holds Tryd.pinned (OpenSpec.upto fnExactBridgesOfSpec)

/-- 'laws.FnExactStrongIn', WHERE WHAT IT READS IS OF BULK AT MOST 1048576: true; the input reads as it did. -/
def fnExactStrongInUptoRow : OpenClaim := { program := "ytklnjpdpinccoaadoor", sum := "9538a6271ccfcebfa94d7a5784aaa983a9ec33919cf32e9ba9acbb94ca55b64b", func := "loop.example/g00871/laws.FnExactStrongIn", spec := "fnExactStrongIn", unfollowed := true, recurses := true, named := ["math/bits.deBruijn32tab"], apart := false, laid := [("math/bits.deBruijn32tab", laid_math_bits_deBruijn32tab)], narrowed := true }
def FnExactStrongInUptoSaid : Prop := fnExactStrongInUptoRow.holds Tryd.pinned (OpenSpec.upto fnExactStrongInSpec)

/-- 'laws.FnExactBranchEdges', WHERE WHAT IT READS IS OF BULK AT MOST 1048576: true; the input reads as it did. -/
def fnExactBranchEdgesUptoRow : OpenClaim := { program := "ytklnjpdpinccoaadoor", sum := "9538a6271ccfcebfa94d7a5784aaa983a9ec33919cf32e9ba9acbb94ca55b64b", func := "loop.example/g00871/laws.FnExactBranchEdges", spec := "fnExactBranchEdges", unfollowed := true, recurses := true, named := ["math/bits.deBruijn32tab"], apart := false, laid := [("math/bits.deBruijn32tab", laid_math_bits_deBruijn32tab)], narrowed := true }
def FnExactBranchEdgesUptoSaid : Prop := fnExactBranchEdgesUptoRow.holds Tryd.pinned (OpenSpec.upto fnExactBranchEdgesSpec)

/-- 'laws.FnExactModularTree', WHERE WHAT IT READS IS OF BULK AT MOST 1048576: true; the input reads as it did. -/
def fnExactModularTreeUptoRow : OpenClaim := { program := "ytklnjpdpinccoaadoor", sum := "9538a6271ccfcebfa94d7a5784aaa983a9ec33919cf32e9ba9acbb94ca55b64b", func := "loop.example/g00871/laws.FnExactModularTree", spec := "fnExactModularTree", recurses := true, named := ["math/bits.deBruijn32tab"], apart := false, laid := [("math/bits.deBruijn32tab", laid_math_bits_deBruijn32tab)], narrowed := true }
def FnExactModularTreeUptoSaid : Prop := fnExactModularTreeUptoRow.holds Tryd.pinned (OpenSpec.upto fnExactModularTreeSpec)

/-- 'laws.FnExactModTreeOk', WHERE WHAT IT READS IS OF BULK AT MOST 1048576: true; the input reads as it did. -/
def fnExactModTreeOkUptoRow : OpenClaim := { program := "ytklnjpdpinccoaadoor", sum := "9538a6271ccfcebfa94d7a5784aaa983a9ec33919cf32e9ba9acbb94ca55b64b", func := "loop.example/g00871/laws.FnExactModTreeOk", spec := "fnExactModTreeOk", unfollowed := true, recurses := true, named := ["math/bits.deBruijn32tab"], apart := false, laid := [("math/bits.deBruijn32tab", laid_math_bits_deBruijn32tab)], narrowed := true }
def FnExactModTreeOkUptoSaid : Prop := fnExactModTreeOkUptoRow.holds Tryd.pinned (OpenSpec.upto fnExactModTreeOkSpec)

/-- 'laws.FnExactBlocksAt', WHERE WHAT IT READS IS OF BULK AT MOST 1048576: true; the input reads as it did. -/
def fnExactBlocksAtUptoRow : OpenClaim := { program := "ytklnjpdpinccoaadoor", sum := "9538a6271ccfcebfa94d7a5784aaa983a9ec33919cf32e9ba9acbb94ca55b64b", func := "loop.example/g00871/laws.FnExactBlocksAt", spec := "fnExactBlocksAt", unfollowed := true, recurses := true, named := ["math/bits.deBruijn32tab"], apart := false, laid := [("math/bits.deBruijn32tab", laid_math_bits_deBruijn32tab)], narrowed := true }
def FnExactBlocksAtUptoSaid : Prop := fnExactBlocksAtUptoRow.holds Tryd.pinned (OpenSpec.upto fnExactBlocksAtSpec)

/-- 'laws.FnExactChordlessLoop', WHERE WHAT IT READS IS OF BULK AT MOST 1048576: true; the input reads as it did. -/
def fnExactChordlessLoopUptoRow : OpenClaim := { program := "ytklnjpdpinccoaadoor", sum := "9538a6271ccfcebfa94d7a5784aaa983a9ec33919cf32e9ba9acbb94ca55b64b", func := "loop.example/g00871/laws.FnExactChordlessLoop", spec := "fnExactChordlessLoop", unfollowed := true, recurses := true, named := ["math/bits.deBruijn32tab"], apart := false, laid := [("math/bits.deBruijn32tab", laid_math_bits_deBruijn32tab)], narrowed := true }
def FnExactChordlessLoopUptoSaid : Prop := fnExactChordlessLoopUptoRow.holds Tryd.pinned (OpenSpec.upto fnExactChordlessLoopSpec)

end Rows
end Go.Proofs.YtklnjpdpinccoaaDoor
