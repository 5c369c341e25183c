/-
  NARROWER THAN 'FOR EVERY INPUT', by the rows' own cells (each row's printed sentence says how): FnExactModTreeOk: laid · FnExactIntervalIn: laid · FnExactCliqueOrder: laid · FnExactIntervalsOf: laid · FnExactWhyNotPerm: laid.
  DERIVED. THE GIVEN ROWS OF THIS SEAT. 5 by the template 'for every input the law returns true; each argument reads behind the call as it read before'; 0 by the template 'total and deterministic' (their statements: YtpdlcnpmljfclaaDoorTotals.lean).
  GIVEN WITH THE SEED: the statements are not yours to turn. If you find one false, say at which input.
  Laid BY PROGRAM, IN A SANDBOX (cutbox-rows.mjs): the forced cells as the released guide's own fill.sh prints them over the translation fefa638c470b11ec… (all of the seat's roots in one cut). By AI agents, Wed Nov 11 2026. No macro, syntax, notation, axiom, sorry.
-/
import Derived.Test.YtpdlcnpmljfclaaDoorChecked
import GoSem.Claim
import GoSem.ClaimJoined
import GoSem.ClaimMapViews
import Derived.JoinedTies
import Derived.KernelRfl
namespace Go.Proofs.YtpdlcnpmljfclaaDoor
/- THE CELL 'sum', in the pinned program and in every row, IS THE sha256 OF THE DUMP (.gsa) THAT YtpdlcnpmljfclaaDoorProg.lean LOADS. Nothing in Lean hashes anything: it is a label: what it is worth is what the hold of that sum in a sandbox is worth. -/
noncomputable def Tryd.pinned : Pinned := { name := "ytpdlcnpmljfclaadoor", sum := "fefa638c470b11ec9af4a3293df60ef0fe1e2e6fd13d68464aa9ad4feb394b20", checked := Tryd.checked }
namespace Rows
def none {H : Type} : Left H := { results := [], args := [] }

/- WHAT THE LISTED PACKAGE-LEVEL VARIABLES READ AS WHEN THE CALL BEGINS. Each datum BY PROGRAM (the guide's laid-datum.mjs) off the statement by which the dump's own 'gosem.cut.vars' lays the variable. In a bare row this is a premise. The card (YtpdlcnpmljfclaaDoorCards.lean) ties it to the program's text. -/
def laid_math_bits_deBruijn32tab {H : Type} : DataW H := .agg [.lit (.int .u8 0), .lit (.int .u8 1), .lit (.int .u8 28), .lit (.int .u8 2), .lit (.int .u8 29), .lit (.int .u8 14), .lit (.int .u8 24), .lit (.int .u8 3), .lit (.int .u8 30), .lit (.int .u8 22), .lit (.int .u8 20), .lit (.int .u8 15), .lit (.int .u8 25), .lit (.int .u8 17), .lit (.int .u8 4), .lit (.int .u8 8), .lit (.int .u8 31), .lit (.int .u8 27), .lit (.int .u8 13), .lit (.int .u8 23), .lit (.int .u8 21), .lit (.int .u8 19), .lit (.int .u8 16), .lit (.int .u8 7), .lit (.int .u8 26), .lit (.int .u8 12), .lit (.int .u8 18), .lit (.int .u8 6), .lit (.int .u8 11), .lit (.int .u8 5), .lit (.int .u8 10), .lit (.int .u8 9)]

/-- 'laws.FnExactModTreeOk': WHATEVER THE INPUT: true; the input reads as it did. -/
def fnExactModTreeOkSpec : ChangeSpec := { name := "fnExactModTreeOk", fn := fun _ => fun
  | [d1, d2] => { results := [.lit (.bool true)], args := [d1, d2] }
  | _ => none }
def fnExactModTreeOkRow : OpenClaim := { program := "ytpdlcnpmljfclaadoor", sum := "fefa638c470b11ec9af4a3293df60ef0fe1e2e6fd13d68464aa9ad4feb394b20", func := "loop.example/g00871/laws.FnExactModTreeOk", spec := "fnExactModTreeOk", unfollowed := true, recurses := true, named := ["math/bits.deBruijn32tab"], plainKeys := false, apart := false, laid := [("math/bits.deBruijn32tab", laid_math_bits_deBruijn32tab)] }
def FnExactModTreeOkSaid : Prop := fnExactModTreeOkRow.holds Tryd.pinned (OpenSpec.ofChange fnExactModTreeOkSpec)

/-- ITS FALSE NEIGHBOUR: 'it returns false'. Refute it at one input. -/
def fnExactModTreeOkWrong : ChangeSpec := { name := "fnExactModTreeOk", fn := fun _ => fun
  | [d1, d2] => { results := [.lit (.bool false)], args := [d1, d2] }
  | _ => none }
def FnExactModTreeOkWrongFalsely : Prop := fnExactModTreeOkRow.holds Tryd.pinned (OpenSpec.ofChange fnExactModTreeOkWrong)

/-- 'laws.FnExactIntervalIn': WHATEVER THE INPUT: true; the input reads as it did. -/
def fnExactIntervalInSpec : ChangeSpec := { name := "fnExactIntervalIn", fn := fun _ => fun
  | [d] => { results := [.lit (.bool true)], args := [d] }
  | _ => none }
def fnExactIntervalInRow : OpenClaim := { program := "ytpdlcnpmljfclaadoor", sum := "fefa638c470b11ec9af4a3293df60ef0fe1e2e6fd13d68464aa9ad4feb394b20", func := "loop.example/g00871/laws.FnExactIntervalIn", spec := "fnExactIntervalIn", unfollowed := true, recurses := true, named := ["math/bits.deBruijn32tab"], plainKeys := false, apart := false, laid := [("math/bits.deBruijn32tab", laid_math_bits_deBruijn32tab)] }
def FnExactIntervalInSaid : Prop := fnExactIntervalInRow.holds Tryd.pinned (OpenSpec.ofChange fnExactIntervalInSpec)

/-- ITS FALSE NEIGHBOUR: 'it returns false'. Refute it at one input. -/
def fnExactIntervalInWrong : ChangeSpec := { name := "fnExactIntervalIn", fn := fun _ => fun
  | [d] => { results := [.lit (.bool false)], args := [d] }
  | _ => none }
def FnExactIntervalInWrongFalsely : Prop := fnExactIntervalInRow.holds Tryd.pinned (OpenSpec.ofChange fnExactIntervalInWrong)

/-- 'laws.FnExactCliqueOrder': WHATEVER THE INPUT: true; the input reads as it did. -/
def fnExactCliqueOrderSpec : ChangeSpec := { name := "fnExactCliqueOrder", fn := fun _ => fun
  | [d] => { results := [.lit (.bool true)], args := [d] }
  | _ => none }
def fnExactCliqueOrderRow : OpenClaim := { program := "ytpdlcnpmljfclaadoor", sum := "fefa638c470b11ec9af4a3293df60ef0fe1e2e6fd13d68464aa9ad4feb394b20", func := "loop.example/g00871/laws.FnExactCliqueOrder", spec := "fnExactCliqueOrder", unfollowed := true, recurses := true, named := ["math/bits.deBruijn32tab"], plainKeys := false, apart := false, laid := [("math/bits.deBruijn32tab", laid_math_bits_deBruijn32tab)] }
def FnExactCliqueOrderSaid : Prop := fnExactCliqueOrderRow.holds Tryd.pinned (OpenSpec.ofChange fnExactCliqueOrderSpec)

/-- ITS FALSE NEIGHBOUR: 'it returns false'. Refute it at one input. -/
def fnExactCliqueOrderWrong : ChangeSpec := { name := "fnExactCliqueOrder", fn := fun _ => fun
  | [d] => { results := [.lit (.bool false)], args := [d] }
  | _ => none }
def FnExactCliqueOrderWrongFalsely : Prop := fnExactCliqueOrderRow.holds Tryd.pinned (OpenSpec.ofChange fnExactCliqueOrderWrong)

/-- 'laws.FnExactIntervalsOf': WHATEVER THE INPUT: true; the input reads as it did. -/
def fnExactIntervalsOfSpec : ChangeSpec := { name := "fnExactIntervalsOf", fn := fun _ => fun
  | [d] => { results := [.lit (.bool true)], args := [d] }
  | _ => none }
def fnExactIntervalsOfRow : OpenClaim := { program := "ytpdlcnpmljfclaadoor", sum := "fefa638c470b11ec9af4a3293df60ef0fe1e2e6fd13d68464aa9ad4feb394b20", func := "loop.example/g00871/laws.FnExactIntervalsOf", spec := "fnExactIntervalsOf", unfollowed := true, recurses := true, named := ["math/bits.deBruijn32tab"], plainKeys := false, apart := false, laid := [("math/bits.deBruijn32tab", laid_math_bits_deBruijn32tab)] }
def FnExactIntervalsOfSaid : Prop := fnExactIntervalsOfRow.holds Tryd.pinned (OpenSpec.ofChange fnExactIntervalsOfSpec)

/-- ITS FALSE NEIGHBOUR: 'it returns false'. Refute it at one input. -/
def fnExactIntervalsOfWrong : ChangeSpec := { name := "fnExactIntervalsOf", fn := fun _ => fun
  | [d] => { results := [.lit (.bool false)], args := [d] }
  | _ => none }
def FnExactIntervalsOfWrongFalsely : Prop := fnExactIntervalsOfRow.holds Tryd.pinned (OpenSpec.ofChange fnExactIntervalsOfWrong)

/-- 'laws.FnExactWhyNotPerm': WHATEVER THE INPUT: true; the input reads as it did. -/
def fnExactWhyNotPermSpec : ChangeSpec := { name := "fnExactWhyNotPerm", fn := fun _ => fun
  | [d] => { results := [.lit (.bool true)], args := [d] }
  | _ => none }
def fnExactWhyNotPermRow : OpenClaim := { program := "ytpdlcnpmljfclaadoor", sum := "fefa638c470b11ec9af4a3293df60ef0fe1e2e6fd13d68464aa9ad4feb394b20", func := "loop.example/g00871/laws.FnExactWhyNotPerm", spec := "fnExactWhyNotPerm", unfollowed := true, recurses := true, named := ["math/bits.deBruijn32tab"], plainKeys := false, apart := false, laid := [("math/bits.deBruijn32tab", laid_math_bits_deBruijn32tab)] }
def FnExactWhyNotPermSaid : Prop := fnExactWhyNotPermRow.holds Tryd.pinned (OpenSpec.ofChange fnExactWhyNotPermSpec)

/-- ITS FALSE NEIGHBOUR: 'it returns false'. Refute it at one input. -/
def fnExactWhyNotPermWrong : ChangeSpec := { name := "fnExactWhyNotPerm", fn := fun _ => fun
  | [d] => { results := [.lit (.bool false)], args := [d] }
  | _ => none }
def FnExactWhyNotPermWrongFalsely : Prop := fnExactWhyNotPermRow.holds Tryd.pinned (OpenSpec.ofChange fnExactWhyNotPermWrong)

/- THE SECOND FORM. 'bulk': how many values and letters a reading holds, each counted each time it is reached (what is shared counts as often as it is met; a slice's spare places count too). A statement '..UptoSaid' is the law's where the arguments, and the package variables that the reading takes, are together of bulk at most 1048576: NARROWER than '..Said'. Prove '..Said' where nothing that the law and all that it calls make is longer than what came in: it says more and counts as full. Else prove '..UptoSaid'. A law counts once. -/
mutual
def uptoBulk {H : Type} : DataW H → Nat
  | .lit (.string bytes) => bytes.length + 1
  | .lit _ => 1
  | .nil => 1
  | .ptr d => uptoBulk d + 1
  | .slice elems spare => uptoBulkAll elems + uptoBulkAll spare + 1
  | .agg parts => uptoBulkAll parts + 1
  | .iface _ d => uptoBulk d + 1
  | .map entries => uptoBulkEntries entries + 1
  | .held _ => 1
def uptoBulkAll {H : Type} : List (DataW H) → Nat
  | [] => 0
  | d :: r => uptoBulk d + uptoBulkAll r
def uptoBulkEntries {H : Type} : List (Lit × DataW H) → Nat
  | [] => 0
  | x :: r => uptoBulkEntry x + uptoBulkEntries r
def uptoBulkEntry {H : Type} : Lit × DataW H → Nat
  | (.string bytes, d) => bytes.length + uptoBulk d + 1
  | (_, d) => uptoBulk d + 1
 end
def uptoSmall : (H : Type) → List (DataW H) → Bool := fun _ ds => decide (uptoBulkAll ds ≤ 1048576)
def OpenSpec.upto (s : _root_.Go.ChangeSpec) : _root_.Go.OpenSpec := { _root_.Go.OpenSpec.ofChange s with cond := some uptoSmall }

/-- 'laws.FnExactModTreeOk', WHERE WHAT IT READS IS OF BULK AT MOST 1048576: true; the input reads as it did. -/
def fnExactModTreeOkUptoRow : OpenClaim := { program := "ytpdlcnpmljfclaadoor", sum := "fefa638c470b11ec9af4a3293df60ef0fe1e2e6fd13d68464aa9ad4feb394b20", func := "loop.example/g00871/laws.FnExactModTreeOk", spec := "fnExactModTreeOk", unfollowed := true, recurses := true, named := ["math/bits.deBruijn32tab"], plainKeys := false, apart := false, laid := [("math/bits.deBruijn32tab", laid_math_bits_deBruijn32tab)], narrowed := true }
def FnExactModTreeOkUptoSaid : Prop := fnExactModTreeOkUptoRow.holds Tryd.pinned (OpenSpec.upto fnExactModTreeOkSpec)

/-- 'laws.FnExactIntervalIn', WHERE WHAT IT READS IS OF BULK AT MOST 1048576: true; the input reads as it did. -/
def fnExactIntervalInUptoRow : OpenClaim := { program := "ytpdlcnpmljfclaadoor", sum := "fefa638c470b11ec9af4a3293df60ef0fe1e2e6fd13d68464aa9ad4feb394b20", func := "loop.example/g00871/laws.FnExactIntervalIn", spec := "fnExactIntervalIn", unfollowed := true, recurses := true, named := ["math/bits.deBruijn32tab"], plainKeys := false, apart := false, laid := [("math/bits.deBruijn32tab", laid_math_bits_deBruijn32tab)], narrowed := true }
def FnExactIntervalInUptoSaid : Prop := fnExactIntervalInUptoRow.holds Tryd.pinned (OpenSpec.upto fnExactIntervalInSpec)

/-- 'laws.FnExactCliqueOrder', WHERE WHAT IT READS IS OF BULK AT MOST 1048576: true; the input reads as it did. -/
def fnExactCliqueOrderUptoRow : OpenClaim := { program := "ytpdlcnpmljfclaadoor", sum := "fefa638c470b11ec9af4a3293df60ef0fe1e2e6fd13d68464aa9ad4feb394b20", func := "loop.example/g00871/laws.FnExactCliqueOrder", spec := "fnExactCliqueOrder", unfollowed := true, recurses := true, named := ["math/bits.deBruijn32tab"], plainKeys := false, apart := false, laid := [("math/bits.deBruijn32tab", laid_math_bits_deBruijn32tab)], narrowed := true }
def FnExactCliqueOrderUptoSaid : Prop := fnExactCliqueOrderUptoRow.holds Tryd.pinned (OpenSpec.upto fnExactCliqueOrderSpec)

/-- 'laws.FnExactIntervalsOf', WHERE WHAT IT READS IS OF BULK AT MOST 1048576: true; the input reads as it did. -/
def fnExactIntervalsOfUptoRow : OpenClaim := { program := "ytpdlcnpmljfclaadoor", sum := "fefa638c470b11ec9af4a3293df60ef0fe1e2e6fd13d68464aa9ad4feb394b20", func := "loop.example/g00871/laws.FnExactIntervalsOf", spec := "fnExactIntervalsOf", unfollowed := true, recurses := true, named := ["math/bits.deBruijn32tab"], plainKeys := false, apart := false, laid := [("math/bits.deBruijn32tab", laid_math_bits_deBruijn32tab)], narrowed := true }
def FnExactIntervalsOfUptoSaid : Prop := fnExactIntervalsOfUptoRow.holds Tryd.pinned (OpenSpec.upto fnExactIntervalsOfSpec)

/-- 'laws.FnExactWhyNotPerm', WHERE WHAT IT READS IS OF BULK AT MOST 1048576: true; the input reads as it did. -/
def fnExactWhyNotPermUptoRow : OpenClaim := { program := "ytpdlcnpmljfclaadoor", sum := "fefa638c470b11ec9af4a3293df60ef0fe1e2e6fd13d68464aa9ad4feb394b20", func := "loop.example/g00871/laws.FnExactWhyNotPerm", spec := "fnExactWhyNotPerm", unfollowed := true, recurses := true, named := ["math/bits.deBruijn32tab"], plainKeys := false, apart := false, laid := [("math/bits.deBruijn32tab", laid_math_bits_deBruijn32tab)], narrowed := true }
def FnExactWhyNotPermUptoSaid : Prop := fnExactWhyNotPermUptoRow.holds Tryd.pinned (OpenSpec.upto fnExactWhyNotPermSpec)

end Rows
end Go.Proofs.YtpdlcnpmljfclaaDoor
