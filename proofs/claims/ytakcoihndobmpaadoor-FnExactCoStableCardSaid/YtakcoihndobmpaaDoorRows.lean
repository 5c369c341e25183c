/-
  NARROWER THAN 'FOR EVERY INPUT', by the rows' own cells (each row's printed sentence says how): FnExactPartsOk: laid · FnExactModuleIn: laid · FnExactSplitterOf: laid · FnExactCoTreeOk: laid · FnExactPrimeIn: laid · FnExactCoClique: laid · FnExactCoStable: laid.
  DERIVED. THE GIVEN ROWS OF THIS SEAT. 7 by the template 'for every input the law returns true; each argument reads behind the call as it read before'; 0 by the template 'total and deterministic' (their statements: YtakcoihndobmpaaDoorTotals.lean).
  GIVEN WITH THE SEED: the statements are not yours to turn. If you find one false, say at which input.
  Laid BY PROGRAM, IN A SANDBOX (cutbox-rows.mjs): the forced cells as the released guide's own fill.sh prints them over the translation 7f44cbdab3f4c90a… (all of the seat's roots in one cut). By AI agents, Wed Nov 11 2026. No macro, syntax, notation, axiom, sorry.
-/
import Derived.Test.YtakcoihndobmpaaDoorChecked
import GoSem.Claim
import GoSem.ClaimJoined
import GoSem.ClaimMapViews
import Derived.JoinedTies
import Derived.KernelRfl
namespace Go.Proofs.YtakcoihndobmpaaDoor
/- THE CELL 'sum', in the pinned program and in every row, IS THE sha256 OF THE DUMP (.gsa) THAT YtakcoihndobmpaaDoorProg.lean LOADS. Nothing in Lean hashes anything: it is a label: what it is worth is what the hold of that sum in a sandbox is worth. -/
noncomputable def Tryd.pinned : Pinned := { name := "ytakcoihndobmpaadoor", sum := "7f44cbdab3f4c90a81fe07e1aa0cabbe9bc76039f3d63254c6e050584a2b13dc", checked := Tryd.checked }
namespace Rows
def none {H : Type} : Left H := { results := [], args := [] }

/- WHAT THE LISTED PACKAGE-LEVEL VARIABLES READ AS WHEN THE CALL BEGINS. Each datum BY PROGRAM (the guide's laid-datum.mjs) off the statement by which the dump's own 'gosem.cut.vars' lays the variable. In a bare row this is a premise. The card (YtakcoihndobmpaaDoorCards.lean) ties it to the program's text. -/
def laid_math_bits_deBruijn32tab {H : Type} : DataW H := .agg [.lit (.int .u8 0), .lit (.int .u8 1), .lit (.int .u8 28), .lit (.int .u8 2), .lit (.int .u8 29), .lit (.int .u8 14), .lit (.int .u8 24), .lit (.int .u8 3), .lit (.int .u8 30), .lit (.int .u8 22), .lit (.int .u8 20), .lit (.int .u8 15), .lit (.int .u8 25), .lit (.int .u8 17), .lit (.int .u8 4), .lit (.int .u8 8), .lit (.int .u8 31), .lit (.int .u8 27), .lit (.int .u8 13), .lit (.int .u8 23), .lit (.int .u8 21), .lit (.int .u8 19), .lit (.int .u8 16), .lit (.int .u8 7), .lit (.int .u8 26), .lit (.int .u8 12), .lit (.int .u8 18), .lit (.int .u8 6), .lit (.int .u8 11), .lit (.int .u8 5), .lit (.int .u8 10), .lit (.int .u8 9)]

/-- 'laws.FnExactPartsOk': WHATEVER THE INPUT: true; the input reads as it did. -/
def fnExactPartsOkSpec : ChangeSpec := { name := "fnExactPartsOk", fn := fun _ => fun
  | [d] => { results := [.lit (.bool true)], args := [d] }
  | _ => none }
def fnExactPartsOkRow : OpenClaim := { program := "ytakcoihndobmpaadoor", sum := "7f44cbdab3f4c90a81fe07e1aa0cabbe9bc76039f3d63254c6e050584a2b13dc", func := "loop.example/g00871/laws.FnExactPartsOk", spec := "fnExactPartsOk", recurses := true, named := ["math/bits.deBruijn32tab"], apart := false, laid := [("math/bits.deBruijn32tab", laid_math_bits_deBruijn32tab)] }
def FnExactPartsOkSaid : Prop := fnExactPartsOkRow.holds Tryd.pinned (OpenSpec.ofChange fnExactPartsOkSpec)

/-- ITS FALSE NEIGHBOUR: 'it returns false'. Refute it at one input. -/
def fnExactPartsOkWrong : ChangeSpec := { name := "fnExactPartsOk", fn := fun _ => fun
  | [d] => { results := [.lit (.bool false)], args := [d] }
  | _ => none }
def FnExactPartsOkWrongFalsely : Prop := fnExactPartsOkRow.holds Tryd.pinned (OpenSpec.ofChange fnExactPartsOkWrong)

/-- 'laws.FnExactModuleIn': WHATEVER THE INPUT: true; the input reads as it did. -/
def fnExactModuleInSpec : ChangeSpec := { name := "fnExactModuleIn", fn := fun _ => fun
  | [d1, d2] => { results := [.lit (.bool true)], args := [d1, d2] }
  | _ => none }
def fnExactModuleInRow : OpenClaim := { program := "ytakcoihndobmpaadoor", sum := "7f44cbdab3f4c90a81fe07e1aa0cabbe9bc76039f3d63254c6e050584a2b13dc", func := "loop.example/g00871/laws.FnExactModuleIn", spec := "fnExactModuleIn", named := ["math/bits.deBruijn32tab"], apart := false, laid := [("math/bits.deBruijn32tab", laid_math_bits_deBruijn32tab)] }
def FnExactModuleInSaid : Prop := fnExactModuleInRow.holds Tryd.pinned (OpenSpec.ofChange fnExactModuleInSpec)

/-- ITS FALSE NEIGHBOUR: 'it returns false'. Refute it at one input. -/
def fnExactModuleInWrong : ChangeSpec := { name := "fnExactModuleIn", fn := fun _ => fun
  | [d1, d2] => { results := [.lit (.bool false)], args := [d1, d2] }
  | _ => none }
def FnExactModuleInWrongFalsely : Prop := fnExactModuleInRow.holds Tryd.pinned (OpenSpec.ofChange fnExactModuleInWrong)

/-- 'laws.FnExactSplitterOf': WHATEVER THE INPUT: true; the input reads as it did. -/
def fnExactSplitterOfSpec : ChangeSpec := { name := "fnExactSplitterOf", fn := fun _ => fun
  | [d1, d2] => { results := [.lit (.bool true)], args := [d1, d2] }
  | _ => none }
def fnExactSplitterOfRow : OpenClaim := { program := "ytakcoihndobmpaadoor", sum := "7f44cbdab3f4c90a81fe07e1aa0cabbe9bc76039f3d63254c6e050584a2b13dc", func := "loop.example/g00871/laws.FnExactSplitterOf", spec := "fnExactSplitterOf", named := ["math/bits.deBruijn32tab"], apart := false, laid := [("math/bits.deBruijn32tab", laid_math_bits_deBruijn32tab)] }
def FnExactSplitterOfSaid : Prop := fnExactSplitterOfRow.holds Tryd.pinned (OpenSpec.ofChange fnExactSplitterOfSpec)

/-- ITS FALSE NEIGHBOUR: 'it returns false'. Refute it at one input. -/
def fnExactSplitterOfWrong : ChangeSpec := { name := "fnExactSplitterOf", fn := fun _ => fun
  | [d1, d2] => { results := [.lit (.bool false)], args := [d1, d2] }
  | _ => none }
def FnExactSplitterOfWrongFalsely : Prop := fnExactSplitterOfRow.holds Tryd.pinned (OpenSpec.ofChange fnExactSplitterOfWrong)

/-- 'laws.FnExactCoTreeOk': WHATEVER THE INPUT: true; the input reads as it did. -/
def fnExactCoTreeOkSpec : ChangeSpec := { name := "fnExactCoTreeOk", fn := fun _ => fun
  | [d] => { results := [.lit (.bool true)], args := [d] }
  | _ => none }
def fnExactCoTreeOkRow : OpenClaim := { program := "ytakcoihndobmpaadoor", sum := "7f44cbdab3f4c90a81fe07e1aa0cabbe9bc76039f3d63254c6e050584a2b13dc", func := "loop.example/g00871/laws.FnExactCoTreeOk", spec := "fnExactCoTreeOk", unfollowed := true, recurses := true, named := ["math/bits.deBruijn32tab"], apart := false, laid := [("math/bits.deBruijn32tab", laid_math_bits_deBruijn32tab)] }
def FnExactCoTreeOkSaid : Prop := fnExactCoTreeOkRow.holds Tryd.pinned (OpenSpec.ofChange fnExactCoTreeOkSpec)

/-- ITS FALSE NEIGHBOUR: 'it returns false'. Refute it at one input. -/
def fnExactCoTreeOkWrong : ChangeSpec := { name := "fnExactCoTreeOk", fn := fun _ => fun
  | [d] => { results := [.lit (.bool false)], args := [d] }
  | _ => none }
def FnExactCoTreeOkWrongFalsely : Prop := fnExactCoTreeOkRow.holds Tryd.pinned (OpenSpec.ofChange fnExactCoTreeOkWrong)

/-- 'laws.FnExactPrimeIn': WHATEVER THE INPUT: true; the input reads as it did. -/
def fnExactPrimeInSpec : ChangeSpec := { name := "fnExactPrimeIn", fn := fun _ => fun
  | [d] => { results := [.lit (.bool true)], args := [d] }
  | _ => none }
def fnExactPrimeInRow : OpenClaim := { program := "ytakcoihndobmpaadoor", sum := "7f44cbdab3f4c90a81fe07e1aa0cabbe9bc76039f3d63254c6e050584a2b13dc", func := "loop.example/g00871/laws.FnExactPrimeIn", spec := "fnExactPrimeIn", unfollowed := true, recurses := true, named := ["math/bits.deBruijn32tab"], apart := false, laid := [("math/bits.deBruijn32tab", laid_math_bits_deBruijn32tab)] }
def FnExactPrimeInSaid : Prop := fnExactPrimeInRow.holds Tryd.pinned (OpenSpec.ofChange fnExactPrimeInSpec)

/-- ITS FALSE NEIGHBOUR: 'it returns false'. Refute it at one input. -/
def fnExactPrimeInWrong : ChangeSpec := { name := "fnExactPrimeIn", fn := fun _ => fun
  | [d] => { results := [.lit (.bool false)], args := [d] }
  | _ => none }
def FnExactPrimeInWrongFalsely : Prop := fnExactPrimeInRow.holds Tryd.pinned (OpenSpec.ofChange fnExactPrimeInWrong)

/-- 'laws.FnExactCoClique': WHATEVER THE INPUT: true; the input reads as it did. -/
def fnExactCoCliqueSpec : ChangeSpec := { name := "fnExactCoClique", fn := fun _ => fun
  | [d] => { results := [.lit (.bool true)], args := [d] }
  | _ => none }
def fnExactCoCliqueRow : OpenClaim := { program := "ytakcoihndobmpaadoor", sum := "7f44cbdab3f4c90a81fe07e1aa0cabbe9bc76039f3d63254c6e050584a2b13dc", func := "loop.example/g00871/laws.FnExactCoClique", spec := "fnExactCoClique", unfollowed := true, recurses := true, named := ["math/bits.deBruijn32tab"], apart := false, laid := [("math/bits.deBruijn32tab", laid_math_bits_deBruijn32tab)] }
def FnExactCoCliqueSaid : Prop := fnExactCoCliqueRow.holds Tryd.pinned (OpenSpec.ofChange fnExactCoCliqueSpec)

/-- ITS FALSE NEIGHBOUR: 'it returns false'. Refute it at one input. -/
def fnExactCoCliqueWrong : ChangeSpec := { name := "fnExactCoClique", fn := fun _ => fun
  | [d] => { results := [.lit (.bool false)], args := [d] }
  | _ => none }
def FnExactCoCliqueWrongFalsely : Prop := fnExactCoCliqueRow.holds Tryd.pinned (OpenSpec.ofChange fnExactCoCliqueWrong)

/-- 'laws.FnExactCoStable': WHATEVER THE INPUT: true; the input reads as it did. -/
def fnExactCoStableSpec : ChangeSpec := { name := "fnExactCoStable", fn := fun _ => fun
  | [d] => { results := [.lit (.bool true)], args := [d] }
  | _ => none }
def fnExactCoStableRow : OpenClaim := { program := "ytakcoihndobmpaadoor", sum := "7f44cbdab3f4c90a81fe07e1aa0cabbe9bc76039f3d63254c6e050584a2b13dc", func := "loop.example/g00871/laws.FnExactCoStable", spec := "fnExactCoStable", unfollowed := true, recurses := true, named := ["math/bits.deBruijn32tab"], apart := false, laid := [("math/bits.deBruijn32tab", laid_math_bits_deBruijn32tab)] }
def FnExactCoStableSaid : Prop := fnExactCoStableRow.holds Tryd.pinned (OpenSpec.ofChange fnExactCoStableSpec)

/-- ITS FALSE NEIGHBOUR: 'it returns false'. Refute it at one input. -/
def fnExactCoStableWrong : ChangeSpec := { name := "fnExactCoStable", fn := fun _ => fun
  | [d] => { results := [.lit (.bool false)], args := [d] }
  | _ => none }
def FnExactCoStableWrongFalsely : Prop := fnExactCoStableRow.holds Tryd.pinned (OpenSpec.ofChange fnExactCoStableWrong)

/- THE SECOND FORM. 'bulk': how many values and letters a reading holds, each counted each time it is reached (what is shared counts as often as it is met; a slice's spare places count too). A statement '..UptoSaid' is the law's where the arguments, and the package variables that the reading takes, are together of bulk at most 1048576: NARROWER than '..Said'. Prove '..Said' where nothing that the law and all that it calls make is longer than what came in: it says more and counts as full. Else prove '..UptoSaid'. A law counts once. -/
mutual
def uptoBulk {H : Type} : DataW H → Nat
  | .lit (.string bytes) => bytes.length + 1
  | .lit _ => 1
  | .nil => 1
  | .ptr d => uptoBulk d + 1
  | .slice elems spare => uptoBulkAll elems + uptoBulkAll spare + 1
  | .agg parts => uptoBulkAll parts + 1
  | .iface _ d => uptoBulk d + 1
  | .map entries => uptoBulkEntries entries + 1
  | .held _ => 1
def uptoBulkAll {H : Type} : List (DataW H) → Nat
  | [] => 0
  | d :: r => uptoBulk d + uptoBulkAll r
def uptoBulkEntries {H : Type} : List (Lit × DataW H) → Nat
  | [] => 0
  | x :: r => uptoBulkEntry x + uptoBulkEntries r
def uptoBulkEntry {H : Type} : Lit × DataW H → Nat
  | (.string bytes, d) => bytes.length + uptoBulk d + 1
  | (_, d) => uptoBulk d + 1
 end
def uptoSmall : (H : Type) → List (DataW H) → Bool := fun _ ds => decide (uptoBulkAll ds ≤ 1048576)
def OpenSpec.upto (s : _root_.Go.ChangeSpec) : _root_.Go.OpenSpec := { _root_.Go.OpenSpec.ofChange s with cond := some uptoSmall }

/-- 'laws.FnExactPartsOk', WHERE WHAT IT READS IS OF BULK AT MOST 1048576: true; the input reads as it did. -/
def fnExactPartsOkUptoRow : OpenClaim := { program := "ytakcoihndobmpaadoor", sum := "7f44cbdab3f4c90a81fe07e1aa0cabbe9bc76039f3d63254c6e050584a2b13dc", func := "loop.example/g00871/laws.FnExactPartsOk", spec := "fnExactPartsOk", recurses := true, named := ["math/bits.deBruijn32tab"], apart := false, laid := [("math/bits.deBruijn32tab", laid_math_bits_deBruijn32tab)], narrowed := true }
def FnExactPartsOkUptoSaid : Prop := fnExactPartsOkUptoRow.holds Tryd.pinned (OpenSpec.upto fnExactPartsOkSpec)

/-- 'laws.FnExactModuleIn', WHERE WHAT IT READS IS OF BULK AT MOST 1048576: true; the input reads as it did. -/
def fnExactModuleInUptoRow : OpenClaim := { program := "ytakcoihndobmpaadoor", sum := "7f44cbdab3f4c90a81fe07e1aa0cabbe9bc76039f3d63254c6e050584a2b13dc", func := "loop.example/g00871/laws.FnExactModuleIn", spec := "fnExactModuleIn", named := ["math/bits.deBruijn32tab"], apart := false, laid := [("math/bits.deBruijn32tab", laid_math_bits_deBruijn32tab)], narrowed := true }
def FnExactModuleInUptoSaid : Prop := fnExactModuleInUptoRow.holds Tryd.pinned (OpenSpec.upto fnExactModuleInSpec)

/-- 'laws.FnExactSplitterOf', WHERE WHAT IT READS IS OF BULK AT MOST 1048576: true; the input reads as it did. -/
def fnExactSplitterOfUptoRow : OpenClaim := { program := "ytakcoihndobmpaadoor", sum := "7f44cbdab3f4c90a81fe07e1aa0cabbe9bc76039f3d63254c6e050584a2b13dc", func := "loop.example/g00871/laws.FnExactSplitterOf", spec := "fnExactSplitterOf", named := ["math/bits.deBruijn32tab"], apart := false, laid := [("math/bits.deBruijn32tab", laid_math_bits_deBruijn32tab)], narrowed := true }
def FnExactSplitterOfUptoSaid : Prop := fnExactSplitterOfUptoRow.holds Tryd.pinned (OpenSpec.upto fnExactSplitterOfSpec)

/-- 'laws.FnExactCoTreeOk', WHERE WHAT IT READS IS OF BULK AT MOST 1048576: true; the input reads as it did. -/
def fnExactCoTreeOkUptoRow : OpenClaim := { program := "ytakcoihndobmpaadoor", sum := "7f44cbdab3f4c90a81fe07e1aa0cabbe9bc76039f3d63254c6e050584a2b13dc", func := "loop.example/g00871/laws.FnExactCoTreeOk", spec := "fnExactCoTreeOk", unfollowed := true, recurses := true, named := ["math/bits.deBruijn32tab"], apart := false, laid := [("math/bits.deBruijn32tab", laid_math_bits_deBruijn32tab)], narrowed := true }
def FnExactCoTreeOkUptoSaid : Prop := fnExactCoTreeOkUptoRow.holds Tryd.pinned (OpenSpec.upto fnExactCoTreeOkSpec)

/-- 'laws.FnExactPrimeIn', WHERE WHAT IT READS IS OF BULK AT MOST 1048576: true; the input reads as it did. -/
def fnExactPrimeInUptoRow : OpenClaim := { program := "ytakcoihndobmpaadoor", sum := "7f44cbdab3f4c90a81fe07e1aa0cabbe9bc76039f3d63254c6e050584a2b13dc", func := "loop.example/g00871/laws.FnExactPrimeIn", spec := "fnExactPrimeIn", unfollowed := true, recurses := true, named := ["math/bits.deBruijn32tab"], apart := false, laid := [("math/bits.deBruijn32tab", laid_math_bits_deBruijn32tab)], narrowed := true }
def FnExactPrimeInUptoSaid : Prop := fnExactPrimeInUptoRow.holds Tryd.pinned (OpenSpec.upto fnExactPrimeInSpec)

/-- 'laws.FnExactCoClique', WHERE WHAT IT READS IS OF BULK AT MOST 1048576: true; the input reads as it did. -/
def fnExactCoCliqueUptoRow : OpenClaim := { program := "ytakcoihndobmpaadoor", sum := "7f44cbdab3f4c90a81fe07e1aa0cabbe9bc76039f3d63254c6e050584a2b13dc", func := "loop.example/g00871/laws.FnExactCoClique", spec := "fnExactCoClique", unfollowed := true, recurses := true, named := ["math/bits.deBruijn32tab"], apart := false, laid := [("math/bits.deBruijn32tab", laid_math_bits_deBruijn32tab)], narrowed := true }
def FnExactCoCliqueUptoSaid : Prop := fnExactCoCliqueUptoRow.holds Tryd.pinned (OpenSpec.upto fnExactCoCliqueSpec)

/-- 'laws.FnExactCoStable', WHERE WHAT IT READS IS OF BULK AT MOST 1048576: true; the input reads as it did. -/
def fnExactCoStableUptoRow : OpenClaim := { program := "ytakcoihndobmpaadoor", sum := "7f44cbdab3f4c90a81fe07e1aa0cabbe9bc76039f3d63254c6e050584a2b13dc", func := "loop.example/g00871/laws.FnExactCoStable", spec := "fnExactCoStable", unfollowed := true, recurses := true, named := ["math/bits.deBruijn32tab"], apart := false, laid := [("math/bits.deBruijn32tab", laid_math_bits_deBruijn32tab)], narrowed := true }
def FnExactCoStableUptoSaid : Prop := fnExactCoStableUptoRow.holds Tryd.pinned (OpenSpec.upto fnExactCoStableSpec)

end Rows
end Go.Proofs.YtakcoihndobmpaaDoor
