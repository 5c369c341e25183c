/-
  NARROWER THAN 'FOR EVERY INPUT', by the rows' own cells (each row's printed sentence says how): FnExactTwoConnectedIn: laid · FnExactCographIn: laid · FnExactDistancesKept: laid · FnExactSeriesIn: laid · FnExactFoldsOk: laid · FnExactModelWord: laid · FnExactTurnedTree: laid · FnExactCoTree: laid.
  DERIVED. THE GIVEN ROWS OF THIS SEAT. 8 by the template 'for every input the law returns true; each argument reads behind the call as it read before'; 0 by the template 'total and deterministic' (their statements: YtfccpencgengaaaDoorTotals.lean).
  GIVEN WITH THE SEED: the statements are not yours to turn. If you find one false, say at which input.
  Laid BY PROGRAM, IN A SANDBOX (cutbox-rows.mjs): the forced cells as the released guide's own fill.sh prints them over the translation 2f39635d5314f0df… (all of the seat's roots in one cut). By AI agents, Wed Nov 11 2026. No macro, syntax, notation, axiom, sorry.
-/
import Derived.Test.YtfccpencgengaaaDoorChecked
import GoSem.Claim
import GoSem.ClaimJoined
import GoSem.ClaimMapViews
import Derived.JoinedTies
import Derived.KernelRfl
namespace Go.Proofs.YtfccpencgengaaaDoor
/- THE CELL 'sum', in the pinned program and in every row, IS THE sha256 OF THE DUMP (.gsa) THAT YtfccpencgengaaaDoorProg.lean LOADS. Nothing in Lean hashes anything: it is a label: what it is worth is what the hold of that sum in a sandbox is worth. -/
noncomputable def Tryd.pinned : Pinned := { name := "ytfccpencgengaaadoor", sum := "2f39635d5314f0df23079c82c521d13e27dad4be8fff64b4c2c648577ab2c773", checked := Tryd.checked }
namespace Rows
def none {H : Type} : Left H := { results := [], args := [] }

/- WHAT THE LISTED PACKAGE-LEVEL VARIABLES READ AS WHEN THE CALL BEGINS. Each datum BY PROGRAM (the guide's laid-datum.mjs) off the statement by which the dump's own 'gosem.cut.vars' lays the variable. In a bare row this is a premise. The card (YtfccpencgengaaaDoorCards.lean) ties it to the program's text. -/
def laid_math_bits_deBruijn32tab {H : Type} : DataW H := .agg [.lit (.int .u8 0), .lit (.int .u8 1), .lit (.int .u8 28), .lit (.int .u8 2), .lit (.int .u8 29), .lit (.int .u8 14), .lit (.int .u8 24), .lit (.int .u8 3), .lit (.int .u8 30), .lit (.int .u8 22), .lit (.int .u8 20), .lit (.int .u8 15), .lit (.int .u8 25), .lit (.int .u8 17), .lit (.int .u8 4), .lit (.int .u8 8), .lit (.int .u8 31), .lit (.int .u8 27), .lit (.int .u8 13), .lit (.int .u8 23), .lit (.int .u8 21), .lit (.int .u8 19), .lit (.int .u8 16), .lit (.int .u8 7), .lit (.int .u8 26), .lit (.int .u8 12), .lit (.int .u8 18), .lit (.int .u8 6), .lit (.int .u8 11), .lit (.int .u8 5), .lit (.int .u8 10), .lit (.int .u8 9)]

/-- 'laws.FnExactTwoConnectedIn': WHATEVER THE INPUT: true; the input reads as it did. -/
def fnExactTwoConnectedInSpec : ChangeSpec := { name := "fnExactTwoConnectedIn", fn := fun _ => fun
  | [d] => { results := [.lit (.bool true)], args := [d] }
  | _ => none }
def fnExactTwoConnectedInRow : OpenClaim := { program := "ytfccpencgengaaadoor", sum := "2f39635d5314f0df23079c82c521d13e27dad4be8fff64b4c2c648577ab2c773", func := "loop.example/g00871/laws.FnExactTwoConnectedIn", spec := "fnExactTwoConnectedIn", named := ["math/bits.deBruijn32tab"], apart := false, laid := [("math/bits.deBruijn32tab", laid_math_bits_deBruijn32tab)] }
def FnExactTwoConnectedInSaid : Prop := fnExactTwoConnectedInRow.holds Tryd.pinned (OpenSpec.ofChange fnExactTwoConnectedInSpec)

/-- ITS FALSE NEIGHBOUR: 'it returns false'. Refute it at one input. -/
def fnExactTwoConnectedInWrong : ChangeSpec := { name := "fnExactTwoConnectedIn", fn := fun _ => fun
  | [d] => { results := [.lit (.bool false)], args := [d] }
  | _ => none }
def FnExactTwoConnectedInWrongFalsely : Prop := fnExactTwoConnectedInRow.holds Tryd.pinned (OpenSpec.ofChange fnExactTwoConnectedInWrong)

/-- 'laws.FnExactCographIn': WHATEVER THE INPUT: true; the input reads as it did. -/
def fnExactCographInSpec : ChangeSpec := { name := "fnExactCographIn", fn := fun _ => fun
  | [d] => { results := [.lit (.bool true)], args := [d] }
  | _ => none }
def fnExactCographInRow : OpenClaim := { program := "ytfccpencgengaaadoor", sum := "2f39635d5314f0df23079c82c521d13e27dad4be8fff64b4c2c648577ab2c773", func := "loop.example/g00871/laws.FnExactCographIn", spec := "fnExactCographIn", recurses := true, named := ["math/bits.deBruijn32tab"], apart := false, laid := [("math/bits.deBruijn32tab", laid_math_bits_deBruijn32tab)] }
def FnExactCographInSaid : Prop := fnExactCographInRow.holds Tryd.pinned (OpenSpec.ofChange fnExactCographInSpec)

/-- ITS FALSE NEIGHBOUR: 'it returns false'. Refute it at one input. -/
def fnExactCographInWrong : ChangeSpec := { name := "fnExactCographIn", fn := fun _ => fun
  | [d] => { results := [.lit (.bool false)], args := [d] }
  | _ => none }
def FnExactCographInWrongFalsely : Prop := fnExactCographInRow.holds Tryd.pinned (OpenSpec.ofChange fnExactCographInWrong)

/-- 'laws.FnExactDistancesKept': WHATEVER THE INPUT: true; the input reads as it did. -/
def fnExactDistancesKeptSpec : ChangeSpec := { name := "fnExactDistancesKept", fn := fun _ => fun
  | [d] => { results := [.lit (.bool true)], args := [d] }
  | _ => none }
def fnExactDistancesKeptRow : OpenClaim := { program := "ytfccpencgengaaadoor", sum := "2f39635d5314f0df23079c82c521d13e27dad4be8fff64b4c2c648577ab2c773", func := "loop.example/g00871/laws.FnExactDistancesKept", spec := "fnExactDistancesKept", named := ["math/bits.deBruijn32tab"], apart := false, laid := [("math/bits.deBruijn32tab", laid_math_bits_deBruijn32tab)] }
def FnExactDistancesKeptSaid : Prop := fnExactDistancesKeptRow.holds Tryd.pinned (OpenSpec.ofChange fnExactDistancesKeptSpec)

/-- ITS FALSE NEIGHBOUR: 'it returns false'. Refute it at one input. -/
def fnExactDistancesKeptWrong : ChangeSpec := { name := "fnExactDistancesKept", fn := fun _ => fun
  | [d] => { results := [.lit (.bool false)], args := [d] }
  | _ => none }
def FnExactDistancesKeptWrongFalsely : Prop := fnExactDistancesKeptRow.holds Tryd.pinned (OpenSpec.ofChange fnExactDistancesKeptWrong)

/-- 'laws.FnExactSeriesIn': WHATEVER THE INPUT: true; the input reads as it did. -/
def fnExactSeriesInSpec : ChangeSpec := { name := "fnExactSeriesIn", fn := fun _ => fun
  | [d] => { results := [.lit (.bool true)], args := [d] }
  | _ => none }
def fnExactSeriesInRow : OpenClaim := { program := "ytfccpencgengaaadoor", sum := "2f39635d5314f0df23079c82c521d13e27dad4be8fff64b4c2c648577ab2c773", func := "loop.example/g00871/laws.FnExactSeriesIn", spec := "fnExactSeriesIn", named := ["math/bits.deBruijn32tab"], apart := false, laid := [("math/bits.deBruijn32tab", laid_math_bits_deBruijn32tab)] }
def FnExactSeriesInSaid : Prop := fnExactSeriesInRow.holds Tryd.pinned (OpenSpec.ofChange fnExactSeriesInSpec)

/-- ITS FALSE NEIGHBOUR: 'it returns false'. Refute it at one input. -/
def fnExactSeriesInWrong : ChangeSpec := { name := "fnExactSeriesIn", fn := fun _ => fun
  | [d] => { results := [.lit (.bool false)], args := [d] }
  | _ => none }
def FnExactSeriesInWrongFalsely : Prop := fnExactSeriesInRow.holds Tryd.pinned (OpenSpec.ofChange fnExactSeriesInWrong)

/-- 'laws.FnExactFoldsOk': WHATEVER THE INPUT: true; the input reads as it did. -/
def fnExactFoldsOkSpec : ChangeSpec := { name := "fnExactFoldsOk", fn := fun _ => fun
  | [d1, d2] => { results := [.lit (.bool true)], args := [d1, d2] }
  | _ => none }
def fnExactFoldsOkRow : OpenClaim := { program := "ytfccpencgengaaadoor", sum := "2f39635d5314f0df23079c82c521d13e27dad4be8fff64b4c2c648577ab2c773", func := "loop.example/g00871/laws.FnExactFoldsOk", spec := "fnExactFoldsOk", named := ["math/bits.deBruijn32tab"], apart := false, laid := [("math/bits.deBruijn32tab", laid_math_bits_deBruijn32tab)] }
def FnExactFoldsOkSaid : Prop := fnExactFoldsOkRow.holds Tryd.pinned (OpenSpec.ofChange fnExactFoldsOkSpec)

/-- ITS FALSE NEIGHBOUR: 'it returns false'. Refute it at one input. -/
def fnExactFoldsOkWrong : ChangeSpec := { name := "fnExactFoldsOk", fn := fun _ => fun
  | [d1, d2] => { results := [.lit (.bool false)], args := [d1, d2] }
  | _ => none }
def FnExactFoldsOkWrongFalsely : Prop := fnExactFoldsOkRow.holds Tryd.pinned (OpenSpec.ofChange fnExactFoldsOkWrong)

/-- 'laws.FnExactModelWord': WHATEVER THE INPUT: true; the input reads as it did. -/
def fnExactModelWordSpec : ChangeSpec := { name := "fnExactModelWord", fn := fun _ => fun
  | [d1, d2] => { results := [.lit (.bool true)], args := [d1, d2] }
  | _ => none }
def fnExactModelWordRow : OpenClaim := { program := "ytfccpencgengaaadoor", sum := "2f39635d5314f0df23079c82c521d13e27dad4be8fff64b4c2c648577ab2c773", func := "loop.example/g00871/laws.FnExactModelWord", spec := "fnExactModelWord", named := ["math/bits.deBruijn32tab"], apart := false, laid := [("math/bits.deBruijn32tab", laid_math_bits_deBruijn32tab)] }
def FnExactModelWordSaid : Prop := fnExactModelWordRow.holds Tryd.pinned (OpenSpec.ofChange fnExactModelWordSpec)

/-- ITS FALSE NEIGHBOUR: 'it returns false'. Refute it at one input. -/
def fnExactModelWordWrong : ChangeSpec := { name := "fnExactModelWord", fn := fun _ => fun
  | [d1, d2] => { results := [.lit (.bool false)], args := [d1, d2] }
  | _ => none }
def FnExactModelWordWrongFalsely : Prop := fnExactModelWordRow.holds Tryd.pinned (OpenSpec.ofChange fnExactModelWordWrong)

/-- 'laws.FnExactTurnedTree': WHATEVER THE INPUT: true; the input reads as it did. -/
def fnExactTurnedTreeSpec : ChangeSpec := { name := "fnExactTurnedTree", fn := fun _ => fun
  | [d] => { results := [.lit (.bool true)], args := [d] }
  | _ => none }
def fnExactTurnedTreeRow : OpenClaim := { program := "ytfccpencgengaaadoor", sum := "2f39635d5314f0df23079c82c521d13e27dad4be8fff64b4c2c648577ab2c773", func := "loop.example/g00871/laws.FnExactTurnedTree", spec := "fnExactTurnedTree", unfollowed := true, recurses := true, named := ["math/bits.deBruijn32tab"], apart := false, laid := [("math/bits.deBruijn32tab", laid_math_bits_deBruijn32tab)] }
def FnExactTurnedTreeSaid : Prop := fnExactTurnedTreeRow.holds Tryd.pinned (OpenSpec.ofChange fnExactTurnedTreeSpec)

/-- ITS FALSE NEIGHBOUR: 'it returns false'. Refute it at one input. -/
def fnExactTurnedTreeWrong : ChangeSpec := { name := "fnExactTurnedTree", fn := fun _ => fun
  | [d] => { results := [.lit (.bool false)], args := [d] }
  | _ => none }
def FnExactTurnedTreeWrongFalsely : Prop := fnExactTurnedTreeRow.holds Tryd.pinned (OpenSpec.ofChange fnExactTurnedTreeWrong)

/-- 'laws.FnExactCoTree': WHATEVER THE INPUT: true; the input reads as it did. -/
def fnExactCoTreeSpec : ChangeSpec := { name := "fnExactCoTree", fn := fun _ => fun
  | [d] => { results := [.lit (.bool true)], args := [d] }
  | _ => none }
def fnExactCoTreeRow : OpenClaim := { program := "ytfccpencgengaaadoor", sum := "2f39635d5314f0df23079c82c521d13e27dad4be8fff64b4c2c648577ab2c773", func := "loop.example/g00871/laws.FnExactCoTree", spec := "fnExactCoTree", recurses := true, named := ["math/bits.deBruijn32tab"], apart := false, laid := [("math/bits.deBruijn32tab", laid_math_bits_deBruijn32tab)] }
def FnExactCoTreeSaid : Prop := fnExactCoTreeRow.holds Tryd.pinned (OpenSpec.ofChange fnExactCoTreeSpec)

/-- ITS FALSE NEIGHBOUR: 'it returns false'. Refute it at one input. -/
def fnExactCoTreeWrong : ChangeSpec := { name := "fnExactCoTree", fn := fun _ => fun
  | [d] => { results := [.lit (.bool false)], args := [d] }
  | _ => none }
def FnExactCoTreeWrongFalsely : Prop := fnExactCoTreeRow.holds Tryd.pinned (OpenSpec.ofChange fnExactCoTreeWrong)

/- THE SECOND FORM. 'bulk': how many values and letters a reading holds, each counted each time it is reached (what is shared counts as often as it is met; a slice's spare places count too). A statement '..UptoSaid' is the law's where the arguments, and the package variables that the reading takes, are together of bulk at most 1048576: NARROWER than '..Said'. Prove '..Said' where nothing that the law and all that it calls make is longer than what came in: it says more and counts as full. Else prove '..UptoSaid'. A law counts once. -/
mutual
def uptoBulk {H : Type} : DataW H → Nat
  | .lit (.string bytes) => bytes.length + 1
  | .lit _ => 1
  | .nil => 1
  | .ptr d => uptoBulk d + 1
  | .slice elems spare => uptoBulkAll elems + uptoBulkAll spare + 1
  | .agg parts => uptoBulkAll parts + 1
  | .iface _ d => uptoBulk d + 1
  | .map entries => uptoBulkEntries entries + 1
  | .held _ => 1
def uptoBulkAll {H : Type} : List (DataW H) → Nat
  | [] => 0
  | d :: r => uptoBulk d + uptoBulkAll r
def uptoBulkEntries {H : Type} : List (Lit × DataW H) → Nat
  | [] => 0
  | x :: r => uptoBulkEntry x + uptoBulkEntries r
def uptoBulkEntry {H : Type} : Lit × DataW H → Nat
  | (.string bytes, d) => bytes.length + uptoBulk d + 1
  | (_, d) => uptoBulk d + 1
 end
def uptoSmall : (H : Type) → List (DataW H) → Bool := fun _ ds => decide (uptoBulkAll ds ≤ 1048576)
def OpenSpec.upto (s : _root_.Go.ChangeSpec) : _root_.Go.OpenSpec := { _root_.Go.OpenSpec.ofChange s with cond := some uptoSmall }

/-- 'laws.FnExactTwoConnectedIn', WHERE WHAT IT READS IS OF BULK AT MOST 1048576: true; the input reads as it did. -/
def fnExactTwoConnectedInUptoRow : OpenClaim := { program := "ytfccpencgengaaadoor", sum := "2f39635d5314f0df23079c82c521d13e27dad4be8fff64b4c2c648577ab2c773", func := "loop.example/g00871/laws.FnExactTwoConnectedIn", spec := "fnExactTwoConnectedIn", named := ["math/bits.deBruijn32tab"], apart := false, laid := [("math/bits.deBruijn32tab", laid_math_bits_deBruijn32tab)], narrowed := true }
def FnExactTwoConnectedInUptoSaid : Prop := fnExactTwoConnectedInUptoRow.holds Tryd.pinned (OpenSpec.upto fnExactTwoConnectedInSpec)

/-- 'laws.FnExactCographIn', WHERE WHAT IT READS IS OF BULK AT MOST 1048576: true; the input reads as it did. -/
def fnExactCographInUptoRow : OpenClaim := { program := "ytfccpencgengaaadoor", sum := "2f39635d5314f0df23079c82c521d13e27dad4be8fff64b4c2c648577ab2c773", func := "loop.example/g00871/laws.FnExactCographIn", spec := "fnExactCographIn", recurses := true, named := ["math/bits.deBruijn32tab"], apart := false, laid := [("math/bits.deBruijn32tab", laid_math_bits_deBruijn32tab)], narrowed := true }
def FnExactCographInUptoSaid : Prop := fnExactCographInUptoRow.holds Tryd.pinned (OpenSpec.upto fnExactCographInSpec)

/-- 'laws.FnExactDistancesKept', WHERE WHAT IT READS IS OF BULK AT MOST 1048576: true; the input reads as it did. -/
def fnExactDistancesKeptUptoRow : OpenClaim := { program := "ytfccpencgengaaadoor", sum := "2f39635d5314f0df23079c82c521d13e27dad4be8fff64b4c2c648577ab2c773", func := "loop.example/g00871/laws.FnExactDistancesKept", spec := "fnExactDistancesKept", named := ["math/bits.deBruijn32tab"], apart := false, laid := [("math/bits.deBruijn32tab", laid_math_bits_deBruijn32tab)], narrowed := true }
def FnExactDistancesKeptUptoSaid : Prop := fnExactDistancesKeptUptoRow.holds Tryd.pinned (OpenSpec.upto fnExactDistancesKeptSpec)

/-- 'laws.FnExactSeriesIn', WHERE WHAT IT READS IS OF BULK AT MOST 1048576: true; the input reads as it did. -/
def fnExactSeriesInUptoRow : OpenClaim := { program := "ytfccpencgengaaadoor", sum := "2f39635d5314f0df23079c82c521d13e27dad4be8fff64b4c2c648577ab2c773", func := "loop.example/g00871/laws.FnExactSeriesIn", spec := "fnExactSeriesIn", named := ["math/bits.deBruijn32tab"], apart := false, laid := [("math/bits.deBruijn32tab", laid_math_bits_deBruijn32tab)], narrowed := true }
def FnExactSeriesInUptoSaid : Prop := fnExactSeriesInUptoRow.holds Tryd.pinned (OpenSpec.upto fnExactSeriesInSpec)

/-- 'laws.FnExactFoldsOk', WHERE WHAT IT READS IS OF BULK AT MOST 1048576: true; the input reads as it did. -/
def fnExactFoldsOkUptoRow : OpenClaim := { program := "ytfccpencgengaaadoor", sum := "2f39635d5314f0df23079c82c521d13e27dad4be8fff64b4c2c648577ab2c773", func := "loop.example/g00871/laws.FnExactFoldsOk", spec := "fnExactFoldsOk", named := ["math/bits.deBruijn32tab"], apart := false, laid := [("math/bits.deBruijn32tab", laid_math_bits_deBruijn32tab)], narrowed := true }
def FnExactFoldsOkUptoSaid : Prop := fnExactFoldsOkUptoRow.holds Tryd.pinned (OpenSpec.upto fnExactFoldsOkSpec)

/-- 'laws.FnExactModelWord', WHERE WHAT IT READS IS OF BULK AT MOST 1048576: true; the input reads as it did. -/
def fnExactModelWordUptoRow : OpenClaim := { program := "ytfccpencgengaaadoor", sum := "2f39635d5314f0df23079c82c521d13e27dad4be8fff64b4c2c648577ab2c773", func := "loop.example/g00871/laws.FnExactModelWord", spec := "fnExactModelWord", named := ["math/bits.deBruijn32tab"], apart := false, laid := [("math/bits.deBruijn32tab", laid_math_bits_deBruijn32tab)], narrowed := true }
def FnExactModelWordUptoSaid : Prop := fnExactModelWordUptoRow.holds Tryd.pinned (OpenSpec.upto fnExactModelWordSpec)

/-- 'laws.FnExactTurnedTree', WHERE WHAT IT READS IS OF BULK AT MOST 1048576: true; the input reads as it did. -/
def fnExactTurnedTreeUptoRow : OpenClaim := { program := "ytfccpencgengaaadoor", sum := "2f39635d5314f0df23079c82c521d13e27dad4be8fff64b4c2c648577ab2c773", func := "loop.example/g00871/laws.FnExactTurnedTree", spec := "fnExactTurnedTree", unfollowed := true, recurses := true, named := ["math/bits.deBruijn32tab"], apart := false, laid := [("math/bits.deBruijn32tab", laid_math_bits_deBruijn32tab)], narrowed := true }
def FnExactTurnedTreeUptoSaid : Prop := fnExactTurnedTreeUptoRow.holds Tryd.pinned (OpenSpec.upto fnExactTurnedTreeSpec)

/-- 'laws.FnExactCoTree', WHERE WHAT IT READS IS OF BULK AT MOST 1048576: true; the input reads as it did. -/
def fnExactCoTreeUptoRow : OpenClaim := { program := "ytfccpencgengaaadoor", sum := "2f39635d5314f0df23079c82c521d13e27dad4be8fff64b4c2c648577ab2c773", func := "loop.example/g00871/laws.FnExactCoTree", spec := "fnExactCoTree", recurses := true, named := ["math/bits.deBruijn32tab"], apart := false, laid := [("math/bits.deBruijn32tab", laid_math_bits_deBruijn32tab)], narrowed := true }
def FnExactCoTreeUptoSaid : Prop := fnExactCoTreeUptoRow.holds Tryd.pinned (OpenSpec.upto fnExactCoTreeSpec)

end Rows
end Go.Proofs.YtfccpencgengaaaDoor
