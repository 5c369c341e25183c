/-
  NARROWER THAN 'FOR EVERY INPUT', by the rows' own cells (each row's printed sentence says how): FnExactChordlessLoop: laid · FnExactLeastLoop: laid · FnExactOddLoop: laid · FnExactEarsOf: laid · FnSides: laid · FnEars: laid · FnExactFullMinor: laid · FnExactModularTree: laid · FnExactIntervalIn: laid · FnExactCliqueOrder: laid · FnExactWhyNotPerm: laid · FnExactIntervalsOf: laid.
  DERIVED. THE GIVEN ROWS OF THIS SEAT. 12 by the template 'for every input the law returns true; each argument reads behind the call as it read before'; 0 by the template 'total and deterministic' (their statements: YthpbeiihlembnaaDoorTotals.lean).
  GIVEN WITH THE SEED: the statements are not yours to turn. If you find one false, say at which input.
  Laid BY PROGRAM, IN A SANDBOX (cutbox-rows.mjs): the forced cells as the released guide's own fill.sh prints them over the translation 2b4eb98d8a5aad09… (all of the seat's roots in one cut). By AI agents, Wed Nov 11 2026. No macro, syntax, notation, axiom, sorry.
-/
import Derived.Test.YthpbeiihlembnaaDoorChecked
import GoSem.Claim
import GoSem.ClaimJoined
import GoSem.ClaimMapViews
import Derived.JoinedTies
import Derived.KernelRfl
namespace Go.Proofs.YthpbeiihlembnaaDoor
/- THE CELL 'sum', in the pinned program and in every row, IS THE sha256 OF THE DUMP (.gsa) THAT YthpbeiihlembnaaDoorProg.lean LOADS. Nothing in Lean hashes anything: it is a label: what it is worth is what the hold of that sum in a sandbox is worth. -/
noncomputable def Tryd.pinned : Pinned := { name := "ythpbeiihlembnaadoor", sum := "2b4eb98d8a5aad09216c06f5670bac90194a62fdd8019819cfb2e0019f936fce", checked := Tryd.checked }
namespace Rows
def none {H : Type} : Left H := { results := [], args := [] }

/- WHAT THE LISTED PACKAGE-LEVEL VARIABLES READ AS WHEN THE CALL BEGINS. Each datum BY PROGRAM (the guide's laid-datum.mjs) off the statement by which the dump's own 'gosem.cut.vars' lays the variable. In a bare row this is a premise. The card (YthpbeiihlembnaaDoorCards.lean) ties it to the program's text. -/
def laid_math_bits_deBruijn32tab {H : Type} : DataW H := .agg [.lit (.int .u8 0), .lit (.int .u8 1), .lit (.int .u8 28), .lit (.int .u8 2), .lit (.int .u8 29), .lit (.int .u8 14), .lit (.int .u8 24), .lit (.int .u8 3), .lit (.int .u8 30), .lit (.int .u8 22), .lit (.int .u8 20), .lit (.int .u8 15), .lit (.int .u8 25), .lit (.int .u8 17), .lit (.int .u8 4), .lit (.int .u8 8), .lit (.int .u8 31), .lit (.int .u8 27), .lit (.int .u8 13), .lit (.int .u8 23), .lit (.int .u8 21), .lit (.int .u8 19), .lit (.int .u8 16), .lit (.int .u8 7), .lit (.int .u8 26), .lit (.int .u8 12), .lit (.int .u8 18), .lit (.int .u8 6), .lit (.int .u8 11), .lit (.int .u8 5), .lit (.int .u8 10), .lit (.int .u8 9)]

/-- 'laws.FnExactChordlessLoop': WHATEVER THE INPUT: true; the input reads as it did. -/
def fnExactChordlessLoopSpec : ChangeSpec := { name := "fnExactChordlessLoop", fn := fun _ => fun
  | [d] => { results := [.lit (.bool true)], args := [d] }
  | _ => none }
def fnExactChordlessLoopRow : OpenClaim := { program := "ythpbeiihlembnaadoor", sum := "2b4eb98d8a5aad09216c06f5670bac90194a62fdd8019819cfb2e0019f936fce", func := "loop.example/g00871/laws.FnExactChordlessLoop", spec := "fnExactChordlessLoop", unfollowed := true, recurses := true, named := ["math/bits.deBruijn32tab"], plainKeys := false, apart := false, laid := [("math/bits.deBruijn32tab", laid_math_bits_deBruijn32tab)] }
def FnExactChordlessLoopSaid : Prop := fnExactChordlessLoopRow.holds Tryd.pinned (OpenSpec.ofChange fnExactChordlessLoopSpec)

/-- ITS FALSE NEIGHBOUR: 'it returns false'. Refute it at one input. -/
def fnExactChordlessLoopWrong : ChangeSpec := { name := "fnExactChordlessLoop", fn := fun _ => fun
  | [d] => { results := [.lit (.bool false)], args := [d] }
  | _ => none }
def FnExactChordlessLoopWrongFalsely : Prop := fnExactChordlessLoopRow.holds Tryd.pinned (OpenSpec.ofChange fnExactChordlessLoopWrong)

/-- 'laws.FnExactLeastLoop': WHATEVER THE INPUT: true; the input reads as it did. -/
def fnExactLeastLoopSpec : ChangeSpec := { name := "fnExactLeastLoop", fn := fun _ => fun
  | [d] => { results := [.lit (.bool true)], args := [d] }
  | _ => none }
def fnExactLeastLoopRow : OpenClaim := { program := "ythpbeiihlembnaadoor", sum := "2b4eb98d8a5aad09216c06f5670bac90194a62fdd8019819cfb2e0019f936fce", func := "loop.example/g00871/laws.FnExactLeastLoop", spec := "fnExactLeastLoop", unfollowed := true, recurses := true, named := ["math/bits.deBruijn32tab"], plainKeys := false, apart := false, laid := [("math/bits.deBruijn32tab", laid_math_bits_deBruijn32tab)] }
def FnExactLeastLoopSaid : Prop := fnExactLeastLoopRow.holds Tryd.pinned (OpenSpec.ofChange fnExactLeastLoopSpec)

/-- ITS FALSE NEIGHBOUR: 'it returns false'. Refute it at one input. -/
def fnExactLeastLoopWrong : ChangeSpec := { name := "fnExactLeastLoop", fn := fun _ => fun
  | [d] => { results := [.lit (.bool false)], args := [d] }
  | _ => none }
def FnExactLeastLoopWrongFalsely : Prop := fnExactLeastLoopRow.holds Tryd.pinned (OpenSpec.ofChange fnExactLeastLoopWrong)

/-- 'laws.FnExactOddLoop': WHATEVER THE INPUT: true; the input reads as it did. -/
def fnExactOddLoopSpec : ChangeSpec := { name := "fnExactOddLoop", fn := fun _ => fun
  | [d] => { results := [.lit (.bool true)], args := [d] }
  | _ => none }
def fnExactOddLoopRow : OpenClaim := { program := "ythpbeiihlembnaadoor", sum := "2b4eb98d8a5aad09216c06f5670bac90194a62fdd8019819cfb2e0019f936fce", func := "loop.example/g00871/laws.FnExactOddLoop", spec := "fnExactOddLoop", unfollowed := true, recurses := true, named := ["math/bits.deBruijn32tab"], plainKeys := false, apart := false, laid := [("math/bits.deBruijn32tab", laid_math_bits_deBruijn32tab)] }
def FnExactOddLoopSaid : Prop := fnExactOddLoopRow.holds Tryd.pinned (OpenSpec.ofChange fnExactOddLoopSpec)

/-- ITS FALSE NEIGHBOUR: 'it returns false'. Refute it at one input. -/
def fnExactOddLoopWrong : ChangeSpec := { name := "fnExactOddLoop", fn := fun _ => fun
  | [d] => { results := [.lit (.bool false)], args := [d] }
  | _ => none }
def FnExactOddLoopWrongFalsely : Prop := fnExactOddLoopRow.holds Tryd.pinned (OpenSpec.ofChange fnExactOddLoopWrong)

/-- 'laws.FnExactEarsOf': WHATEVER THE INPUT: true; the input reads as it did. -/
def fnExactEarsOfSpec : ChangeSpec := { name := "fnExactEarsOf", fn := fun _ => fun
  | [d] => { results := [.lit (.bool true)], args := [d] }
  | _ => none }
def fnExactEarsOfRow : OpenClaim := { program := "ythpbeiihlembnaadoor", sum := "2b4eb98d8a5aad09216c06f5670bac90194a62fdd8019819cfb2e0019f936fce", func := "loop.example/g00871/laws.FnExactEarsOf", spec := "fnExactEarsOf", unfollowed := true, recurses := true, named := ["math/bits.deBruijn32tab"], plainKeys := false, apart := false, laid := [("math/bits.deBruijn32tab", laid_math_bits_deBruijn32tab)] }
def FnExactEarsOfSaid : Prop := fnExactEarsOfRow.holds Tryd.pinned (OpenSpec.ofChange fnExactEarsOfSpec)

/-- ITS FALSE NEIGHBOUR: 'it returns false'. Refute it at one input. -/
def fnExactEarsOfWrong : ChangeSpec := { name := "fnExactEarsOf", fn := fun _ => fun
  | [d] => { results := [.lit (.bool false)], args := [d] }
  | _ => none }
def FnExactEarsOfWrongFalsely : Prop := fnExactEarsOfRow.holds Tryd.pinned (OpenSpec.ofChange fnExactEarsOfWrong)

/-- 'laws.FnSides': WHATEVER THE INPUT: true; the input reads as it did. -/
def fnSidesSpec : ChangeSpec := { name := "fnSides", fn := fun _ => fun
  | [d] => { results := [.lit (.bool true)], args := [d] }
  | _ => none }
def fnSidesRow : OpenClaim := { program := "ythpbeiihlembnaadoor", sum := "2b4eb98d8a5aad09216c06f5670bac90194a62fdd8019819cfb2e0019f936fce", func := "loop.example/g00871/laws.FnSides", spec := "fnSides", unfollowed := true, recurses := true, named := ["math/bits.deBruijn32tab"], plainKeys := false, apart := false, laid := [("math/bits.deBruijn32tab", laid_math_bits_deBruijn32tab)] }
def FnSidesSaid : Prop := fnSidesRow.holds Tryd.pinned (OpenSpec.ofChange fnSidesSpec)

/-- ITS FALSE NEIGHBOUR: 'it returns false'. Refute it at one input. -/
def fnSidesWrong : ChangeSpec := { name := "fnSides", fn := fun _ => fun
  | [d] => { results := [.lit (.bool false)], args := [d] }
  | _ => none }
def FnSidesWrongFalsely : Prop := fnSidesRow.holds Tryd.pinned (OpenSpec.ofChange fnSidesWrong)

/-- 'laws.FnEars': WHATEVER THE INPUT: true; the input reads as it did. -/
def fnEarsSpec : ChangeSpec := { name := "fnEars", fn := fun _ => fun
  | [d] => { results := [.lit (.bool true)], args := [d] }
  | _ => none }
def fnEarsRow : OpenClaim := { program := "ythpbeiihlembnaadoor", sum := "2b4eb98d8a5aad09216c06f5670bac90194a62fdd8019819cfb2e0019f936fce", func := "loop.example/g00871/laws.FnEars", spec := "fnEars", unfollowed := true, recurses := true, named := ["math/bits.deBruijn32tab"], plainKeys := false, apart := false, laid := [("math/bits.deBruijn32tab", laid_math_bits_deBruijn32tab)] }
def FnEarsSaid : Prop := fnEarsRow.holds Tryd.pinned (OpenSpec.ofChange fnEarsSpec)

/-- ITS FALSE NEIGHBOUR: 'it returns false'. Refute it at one input. -/
def fnEarsWrong : ChangeSpec := { name := "fnEars", fn := fun _ => fun
  | [d] => { results := [.lit (.bool false)], args := [d] }
  | _ => none }
def FnEarsWrongFalsely : Prop := fnEarsRow.holds Tryd.pinned (OpenSpec.ofChange fnEarsWrong)

/-- 'laws.FnExactFullMinor': WHATEVER THE INPUT: true; the input reads as it did. -/
def fnExactFullMinorSpec : ChangeSpec := { name := "fnExactFullMinor", fn := fun _ => fun
  | [d] => { results := [.lit (.bool true)], args := [d] }
  | _ => none }
def fnExactFullMinorRow : OpenClaim := { program := "ythpbeiihlembnaadoor", sum := "2b4eb98d8a5aad09216c06f5670bac90194a62fdd8019819cfb2e0019f936fce", func := "loop.example/g00871/laws.FnExactFullMinor", spec := "fnExactFullMinor", recurses := true, named := ["math/bits.deBruijn32tab"], plainKeys := false, apart := false, laid := [("math/bits.deBruijn32tab", laid_math_bits_deBruijn32tab)] }
def FnExactFullMinorSaid : Prop := fnExactFullMinorRow.holds Tryd.pinned (OpenSpec.ofChange fnExactFullMinorSpec)

/-- ITS FALSE NEIGHBOUR: 'it returns false'. Refute it at one input. -/
def fnExactFullMinorWrong : ChangeSpec := { name := "fnExactFullMinor", fn := fun _ => fun
  | [d] => { results := [.lit (.bool false)], args := [d] }
  | _ => none }
def FnExactFullMinorWrongFalsely : Prop := fnExactFullMinorRow.holds Tryd.pinned (OpenSpec.ofChange fnExactFullMinorWrong)

/-- 'laws.FnExactModularTree': WHATEVER THE INPUT: true; the input reads as it did. -/
def fnExactModularTreeSpec : ChangeSpec := { name := "fnExactModularTree", fn := fun _ => fun
  | [d] => { results := [.lit (.bool true)], args := [d] }
  | _ => none }
def fnExactModularTreeRow : OpenClaim := { program := "ythpbeiihlembnaadoor", sum := "2b4eb98d8a5aad09216c06f5670bac90194a62fdd8019819cfb2e0019f936fce", func := "loop.example/g00871/laws.FnExactModularTree", spec := "fnExactModularTree", recurses := true, named := ["math/bits.deBruijn32tab"], plainKeys := false, apart := false, laid := [("math/bits.deBruijn32tab", laid_math_bits_deBruijn32tab)] }
def FnExactModularTreeSaid : Prop := fnExactModularTreeRow.holds Tryd.pinned (OpenSpec.ofChange fnExactModularTreeSpec)

/-- ITS FALSE NEIGHBOUR: 'it returns false'. Refute it at one input. -/
def fnExactModularTreeWrong : ChangeSpec := { name := "fnExactModularTree", fn := fun _ => fun
  | [d] => { results := [.lit (.bool false)], args := [d] }
  | _ => none }
def FnExactModularTreeWrongFalsely : Prop := fnExactModularTreeRow.holds Tryd.pinned (OpenSpec.ofChange fnExactModularTreeWrong)

/-- 'laws.FnExactIntervalIn': WHATEVER THE INPUT: true; the input reads as it did. -/
def fnExactIntervalInSpec : ChangeSpec := { name := "fnExactIntervalIn", fn := fun _ => fun
  | [d] => { results := [.lit (.bool true)], args := [d] }
  | _ => none }
def fnExactIntervalInRow : OpenClaim := { program := "ythpbeiihlembnaadoor", sum := "2b4eb98d8a5aad09216c06f5670bac90194a62fdd8019819cfb2e0019f936fce", func := "loop.example/g00871/laws.FnExactIntervalIn", spec := "fnExactIntervalIn", unfollowed := true, recurses := true, named := ["math/bits.deBruijn32tab"], plainKeys := false, apart := false, laid := [("math/bits.deBruijn32tab", laid_math_bits_deBruijn32tab)] }
def FnExactIntervalInSaid : Prop := fnExactIntervalInRow.holds Tryd.pinned (OpenSpec.ofChange fnExactIntervalInSpec)

/-- ITS FALSE NEIGHBOUR: 'it returns false'. Refute it at one input. -/
def fnExactIntervalInWrong : ChangeSpec := { name := "fnExactIntervalIn", fn := fun _ => fun
  | [d] => { results := [.lit (.bool false)], args := [d] }
  | _ => none }
def FnExactIntervalInWrongFalsely : Prop := fnExactIntervalInRow.holds Tryd.pinned (OpenSpec.ofChange fnExactIntervalInWrong)

/-- 'laws.FnExactCliqueOrder': WHATEVER THE INPUT: true; the input reads as it did. -/
def fnExactCliqueOrderSpec : ChangeSpec := { name := "fnExactCliqueOrder", fn := fun _ => fun
  | [d] => { results := [.lit (.bool true)], args := [d] }
  | _ => none }
def fnExactCliqueOrderRow : OpenClaim := { program := "ythpbeiihlembnaadoor", sum := "2b4eb98d8a5aad09216c06f5670bac90194a62fdd8019819cfb2e0019f936fce", func := "loop.example/g00871/laws.FnExactCliqueOrder", spec := "fnExactCliqueOrder", unfollowed := true, recurses := true, named := ["math/bits.deBruijn32tab"], plainKeys := false, apart := false, laid := [("math/bits.deBruijn32tab", laid_math_bits_deBruijn32tab)] }
def FnExactCliqueOrderSaid : Prop := fnExactCliqueOrderRow.holds Tryd.pinned (OpenSpec.ofChange fnExactCliqueOrderSpec)

/-- ITS FALSE NEIGHBOUR: 'it returns false'. Refute it at one input. -/
def fnExactCliqueOrderWrong : ChangeSpec := { name := "fnExactCliqueOrder", fn := fun _ => fun
  | [d] => { results := [.lit (.bool false)], args := [d] }
  | _ => none }
def FnExactCliqueOrderWrongFalsely : Prop := fnExactCliqueOrderRow.holds Tryd.pinned (OpenSpec.ofChange fnExactCliqueOrderWrong)

/-- 'laws.FnExactWhyNotPerm': WHATEVER THE INPUT: true; the input reads as it did. -/
def fnExactWhyNotPermSpec : ChangeSpec := { name := "fnExactWhyNotPerm", fn := fun _ => fun
  | [d] => { results := [.lit (.bool true)], args := [d] }
  | _ => none }
def fnExactWhyNotPermRow : OpenClaim := { program := "ythpbeiihlembnaadoor", sum := "2b4eb98d8a5aad09216c06f5670bac90194a62fdd8019819cfb2e0019f936fce", func := "loop.example/g00871/laws.FnExactWhyNotPerm", spec := "fnExactWhyNotPerm", unfollowed := true, recurses := true, named := ["math/bits.deBruijn32tab"], plainKeys := false, apart := false, laid := [("math/bits.deBruijn32tab", laid_math_bits_deBruijn32tab)] }
def FnExactWhyNotPermSaid : Prop := fnExactWhyNotPermRow.holds Tryd.pinned (OpenSpec.ofChange fnExactWhyNotPermSpec)

/-- ITS FALSE NEIGHBOUR: 'it returns false'. Refute it at one input. -/
def fnExactWhyNotPermWrong : ChangeSpec := { name := "fnExactWhyNotPerm", fn := fun _ => fun
  | [d] => { results := [.lit (.bool false)], args := [d] }
  | _ => none }
def FnExactWhyNotPermWrongFalsely : Prop := fnExactWhyNotPermRow.holds Tryd.pinned (OpenSpec.ofChange fnExactWhyNotPermWrong)

/-- 'laws.FnExactIntervalsOf': WHATEVER THE INPUT: true; the input reads as it did. -/
def fnExactIntervalsOfSpec : ChangeSpec := { name := "fnExactIntervalsOf", fn := fun _ => fun
  | [d] => { results := [.lit (.bool true)], args := [d] }
  | _ => none }
def fnExactIntervalsOfRow : OpenClaim := { program := "ythpbeiihlembnaadoor", sum := "2b4eb98d8a5aad09216c06f5670bac90194a62fdd8019819cfb2e0019f936fce", func := "loop.example/g00871/laws.FnExactIntervalsOf", spec := "fnExactIntervalsOf", unfollowed := true, recurses := true, named := ["math/bits.deBruijn32tab"], plainKeys := false, apart := false, laid := [("math/bits.deBruijn32tab", laid_math_bits_deBruijn32tab)] }
def FnExactIntervalsOfSaid : Prop := fnExactIntervalsOfRow.holds Tryd.pinned (OpenSpec.ofChange fnExactIntervalsOfSpec)

/-- ITS FALSE NEIGHBOUR: 'it returns false'. Refute it at one input. -/
def fnExactIntervalsOfWrong : ChangeSpec := { name := "fnExactIntervalsOf", fn := fun _ => fun
  | [d] => { results := [.lit (.bool false)], args := [d] }
  | _ => none }
def FnExactIntervalsOfWrongFalsely : Prop := fnExactIntervalsOfRow.holds Tryd.pinned (OpenSpec.ofChange fnExactIntervalsOfWrong)

/- THE SECOND FORM. 'bulk': how many values and letters a reading holds, each counted each time it is reached (what is shared counts as often as it is met; a slice's spare places count too). A statement '..UptoSaid' is the law's where the arguments, and the package variables that the reading takes, are together of bulk at most 1048576: NARROWER than '..Said'. Prove '..Said' where nothing that the law and all that it calls make is longer than what came in: it says more and counts as full. Else prove '..UptoSaid'. A law counts once. -/
mutual
def uptoBulk {H : Type} : DataW H → Nat
  | .lit (.string bytes) => bytes.length + 1
  | .lit _ => 1
  | .nil => 1
  | .ptr d => uptoBulk d + 1
  | .slice elems spare => uptoBulkAll elems + uptoBulkAll spare + 1
  | .agg parts => uptoBulkAll parts + 1
  | .iface _ d => uptoBulk d + 1
  | .map entries => uptoBulkEntries entries + 1
  | .held _ => 1
def uptoBulkAll {H : Type} : List (DataW H) → Nat
  | [] => 0
  | d :: r => uptoBulk d + uptoBulkAll r
def uptoBulkEntries {H : Type} : List (Lit × DataW H) → Nat
  | [] => 0
  | x :: r => uptoBulkEntry x + uptoBulkEntries r
def uptoBulkEntry {H : Type} : Lit × DataW H → Nat
  | (.string bytes, d) => bytes.length + uptoBulk d + 1
  | (_, d) => uptoBulk d + 1
 end
def uptoSmall : (H : Type) → List (DataW H) → Bool := fun _ ds => decide (uptoBulkAll ds ≤ 1048576)
def OpenSpec.upto (s : _root_.Go.ChangeSpec) : _root_.Go.OpenSpec := { _root_.Go.OpenSpec.ofChange s with cond := some uptoSmall }

/-- 'laws.FnExactChordlessLoop', WHERE WHAT IT READS IS OF BULK AT MOST 1048576: true; the input reads as it did. -/
def fnExactChordlessLoopUptoRow : OpenClaim := { program := "ythpbeiihlembnaadoor", sum := "2b4eb98d8a5aad09216c06f5670bac90194a62fdd8019819cfb2e0019f936fce", func := "loop.example/g00871/laws.FnExactChordlessLoop", spec := "fnExactChordlessLoop", unfollowed := true, recurses := true, named := ["math/bits.deBruijn32tab"], plainKeys := false, apart := false, laid := [("math/bits.deBruijn32tab", laid_math_bits_deBruijn32tab)], narrowed := true }
def FnExactChordlessLoopUptoSaid : Prop := fnExactChordlessLoopUptoRow.holds Tryd.pinned (OpenSpec.upto fnExactChordlessLoopSpec)

/-- 'laws.FnExactLeastLoop', WHERE WHAT IT READS IS OF BULK AT MOST 1048576: true; the input reads as it did. -/
def fnExactLeastLoopUptoRow : OpenClaim := { program := "ythpbeiihlembnaadoor", sum := "2b4eb98d8a5aad09216c06f5670bac90194a62fdd8019819cfb2e0019f936fce", func := "loop.example/g00871/laws.FnExactLeastLoop", spec := "fnExactLeastLoop", unfollowed := true, recurses := true, named := ["math/bits.deBruijn32tab"], plainKeys := false, apart := false, laid := [("math/bits.deBruijn32tab", laid_math_bits_deBruijn32tab)], narrowed := true }
def FnExactLeastLoopUptoSaid : Prop := fnExactLeastLoopUptoRow.holds Tryd.pinned (OpenSpec.upto fnExactLeastLoopSpec)

/-- 'laws.FnExactOddLoop', WHERE WHAT IT READS IS OF BULK AT MOST 1048576: true; the input reads as it did. -/
def fnExactOddLoopUptoRow : OpenClaim := { program := "ythpbeiihlembnaadoor", sum := "2b4eb98d8a5aad09216c06f5670bac90194a62fdd8019819cfb2e0019f936fce", func := "loop.example/g00871/laws.FnExactOddLoop", spec := "fnExactOddLoop", unfollowed := true, recurses := true, named := ["math/bits.deBruijn32tab"], plainKeys := false, apart := false, laid := [("math/bits.deBruijn32tab", laid_math_bits_deBruijn32tab)], narrowed := true }
def FnExactOddLoopUptoSaid : Prop := fnExactOddLoopUptoRow.holds Tryd.pinned (OpenSpec.upto fnExactOddLoopSpec)

/-- 'laws.FnExactEarsOf', WHERE WHAT IT READS IS OF BULK AT MOST 1048576: true; the input reads as it did. -/
def fnExactEarsOfUptoRow : OpenClaim := { program := "ythpbeiihlembnaadoor", sum := "2b4eb98d8a5aad09216c06f5670bac90194a62fdd8019819cfb2e0019f936fce", func := "loop.example/g00871/laws.FnExactEarsOf", spec := "fnExactEarsOf", unfollowed := true, recurses := true, named := ["math/bits.deBruijn32tab"], plainKeys := false, apart := false, laid := [("math/bits.deBruijn32tab", laid_math_bits_deBruijn32tab)], narrowed := true }
def FnExactEarsOfUptoSaid : Prop := fnExactEarsOfUptoRow.holds Tryd.pinned (OpenSpec.upto fnExactEarsOfSpec)

/-- 'laws.FnSides', WHERE WHAT IT READS IS OF BULK AT MOST 1048576: true; the input reads as it did. -/
def fnSidesUptoRow : OpenClaim := { program := "ythpbeiihlembnaadoor", sum := "2b4eb98d8a5aad09216c06f5670bac90194a62fdd8019819cfb2e0019f936fce", func := "loop.example/g00871/laws.FnSides", spec := "fnSides", unfollowed := true, recurses := true, named := ["math/bits.deBruijn32tab"], plainKeys := false, apart := false, laid := [("math/bits.deBruijn32tab", laid_math_bits_deBruijn32tab)], narrowed := true }
def FnSidesUptoSaid : Prop := fnSidesUptoRow.holds Tryd.pinned (OpenSpec.upto fnSidesSpec)

/-- 'laws.FnEars', WHERE WHAT IT READS IS OF BULK AT MOST 1048576: true; the input reads as it did. -/
def fnEarsUptoRow : OpenClaim := { program := "ythpbeiihlembnaadoor", sum := "2b4eb98d8a5aad09216c06f5670bac90194a62fdd8019819cfb2e0019f936fce", func := "loop.example/g00871/laws.FnEars", spec := "fnEars", unfollowed := true, recurses := true, named := ["math/bits.deBruijn32tab"], plainKeys := false, apart := false, laid := [("math/bits.deBruijn32tab", laid_math_bits_deBruijn32tab)], narrowed := true }
def FnEarsUptoSaid : Prop := fnEarsUptoRow.holds Tryd.pinned (OpenSpec.upto fnEarsSpec)

/-- 'laws.FnExactFullMinor', WHERE WHAT IT READS IS OF BULK AT MOST 1048576: true; the input reads as it did. -/
def fnExactFullMinorUptoRow : OpenClaim := { program := "ythpbeiihlembnaadoor", sum := "2b4eb98d8a5aad09216c06f5670bac90194a62fdd8019819cfb2e0019f936fce", func := "loop.example/g00871/laws.FnExactFullMinor", spec := "fnExactFullMinor", recurses := true, named := ["math/bits.deBruijn32tab"], plainKeys := false, apart := false, laid := [("math/bits.deBruijn32tab", laid_math_bits_deBruijn32tab)], narrowed := true }
def FnExactFullMinorUptoSaid : Prop := fnExactFullMinorUptoRow.holds Tryd.pinned (OpenSpec.upto fnExactFullMinorSpec)

/-- 'laws.FnExactModularTree', WHERE WHAT IT READS IS OF BULK AT MOST 1048576: true; the input reads as it did. -/
def fnExactModularTreeUptoRow : OpenClaim := { program := "ythpbeiihlembnaadoor", sum := "2b4eb98d8a5aad09216c06f5670bac90194a62fdd8019819cfb2e0019f936fce", func := "loop.example/g00871/laws.FnExactModularTree", spec := "fnExactModularTree", recurses := true, named := ["math/bits.deBruijn32tab"], plainKeys := false, apart := false, laid := [("math/bits.deBruijn32tab", laid_math_bits_deBruijn32tab)], narrowed := true }
def FnExactModularTreeUptoSaid : Prop := fnExactModularTreeUptoRow.holds Tryd.pinned (OpenSpec.upto fnExactModularTreeSpec)

/-- 'laws.FnExactIntervalIn', WHERE WHAT IT READS IS OF BULK AT MOST 1048576: true; the input reads as it did. -/
def fnExactIntervalInUptoRow : OpenClaim := { program := "ythpbeiihlembnaadoor", sum := "2b4eb98d8a5aad09216c06f5670bac90194a62fdd8019819cfb2e0019f936fce", func := "loop.example/g00871/laws.FnExactIntervalIn", spec := "fnExactIntervalIn", unfollowed := true, recurses := true, named := ["math/bits.deBruijn32tab"], plainKeys := false, apart := false, laid := [("math/bits.deBruijn32tab", laid_math_bits_deBruijn32tab)], narrowed := true }
def FnExactIntervalInUptoSaid : Prop := fnExactIntervalInUptoRow.holds Tryd.pinned (OpenSpec.upto fnExactIntervalInSpec)

/-- 'laws.FnExactCliqueOrder', WHERE WHAT IT READS IS OF BULK AT MOST 1048576: true; the input reads as it did. -/
def fnExactCliqueOrderUptoRow : OpenClaim := { program := "ythpbeiihlembnaadoor", sum := "2b4eb98d8a5aad09216c06f5670bac90194a62fdd8019819cfb2e0019f936fce", func := "loop.example/g00871/laws.FnExactCliqueOrder", spec := "fnExactCliqueOrder", unfollowed := true, recurses := true, named := ["math/bits.deBruijn32tab"], plainKeys := false, apart := false, laid := [("math/bits.deBruijn32tab", laid_math_bits_deBruijn32tab)], narrowed := true }
def FnExactCliqueOrderUptoSaid : Prop := fnExactCliqueOrderUptoRow.holds Tryd.pinned (OpenSpec.upto fnExactCliqueOrderSpec)

/-- 'laws.FnExactWhyNotPerm', WHERE WHAT IT READS IS OF BULK AT MOST 1048576: true; the input reads as it did. -/
def fnExactWhyNotPermUptoRow : OpenClaim := { program := "ythpbeiihlembnaadoor", sum := "2b4eb98d8a5aad09216c06f5670bac90194a62fdd8019819cfb2e0019f936fce", func := "loop.example/g00871/laws.FnExactWhyNotPerm", spec := "fnExactWhyNotPerm", unfollowed := true, recurses := true, named := ["math/bits.deBruijn32tab"], plainKeys := false, apart := false, laid := [("math/bits.deBruijn32tab", laid_math_bits_deBruijn32tab)], narrowed := true }
def FnExactWhyNotPermUptoSaid : Prop := fnExactWhyNotPermUptoRow.holds Tryd.pinned (OpenSpec.upto fnExactWhyNotPermSpec)

/-- 'laws.FnExactIntervalsOf', WHERE WHAT IT READS IS OF BULK AT MOST 1048576: true; the input reads as it did. -/
def fnExactIntervalsOfUptoRow : OpenClaim := { program := "ythpbeiihlembnaadoor", sum := "2b4eb98d8a5aad09216c06f5670bac90194a62fdd8019819cfb2e0019f936fce", func := "loop.example/g00871/laws.FnExactIntervalsOf", spec := "fnExactIntervalsOf", unfollowed := true, recurses := true, named := ["math/bits.deBruijn32tab"], plainKeys := false, apart := false, laid := [("math/bits.deBruijn32tab", laid_math_bits_deBruijn32tab)], narrowed := true }
def FnExactIntervalsOfUptoSaid : Prop := fnExactIntervalsOfUptoRow.holds Tryd.pinned (OpenSpec.upto fnExactIntervalsOfSpec)

end Rows
end Go.Proofs.YthpbeiihlembnaaDoor
