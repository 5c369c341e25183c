/-
  No cell of these rows narrows 'for every input' (looked for: loops, veiled, ifaces, maps, wideKeys, modest, calm, conditions, laid).
  DERIVED. THE GIVEN ROWS OF THIS SEAT. 5 by the template 'for every input the law returns true; each argument reads behind the call as it read before'; 0 by the template 'total and deterministic' (their statements: YtakcoihndobmpaaTotals.lean).
  GIVEN WITH THE SEED: the statements are not yours to turn. If you find one false, say at which input.
  Laid BY PROGRAM, IN A SANDBOX (cutbox-rows.mjs): the forced cells as the released guide's own fill.sh prints them over the translation f4d72b6fe7b7239d… (all of the seat's roots in one cut). By AI agents, Wed Nov 11 2026. No macro, syntax, notation, axiom, sorry.
-/
import Derived.Test.YtakcoihndobmpaaChecked
import GoSem.Claim
import GoSem.ClaimJoined
import GoSem.ClaimMapViews
import Derived.JoinedTies
import Derived.KernelRfl
namespace Go.Proofs.Ytakcoihndobmpaa
/- THE CELL 'sum', in the pinned program and in every row, IS THE sha256 OF THE DUMP (.gsa) THAT YtakcoihndobmpaaProg.lean LOADS. Nothing in Lean hashes anything: it is a label: what it is worth is what the hold of that sum in a sandbox is worth. -/
noncomputable def Try.pinned : Pinned := { name := "ytakcoihndobmpaa", sum := "f4d72b6fe7b7239d12eeb05061e13f64da3ae060e17ec7d82335e463d0cb0aae", checked := Try.checked }
namespace Rows
def none {H : Type} : Left H := { results := [], args := [] }

/-- 'laws.FnExactSymmetries': WHATEVER THE INPUT: true; the input reads as it did. -/
def fnExactSymmetriesSpec : ChangeSpec := { name := "fnExactSymmetries", fn := fun _ => fun
  | [d] => { results := [.lit (.bool true)], args := [d] }
  | _ => none }
def fnExactSymmetriesRow : OpenClaim := { program := "ytakcoihndobmpaa", sum := "f4d72b6fe7b7239d12eeb05061e13f64da3ae060e17ec7d82335e463d0cb0aae", func := "loop.example/g00871/laws.FnExactSymmetries", spec := "fnExactSymmetries", unfollowed := true, recurses := true, apart := false }
def FnExactSymmetriesSaid : Prop := fnExactSymmetriesRow.holds Try.pinned (OpenSpec.ofChange fnExactSymmetriesSpec)

/-- ITS FALSE NEIGHBOUR: 'it returns false'. Refute it at one input. -/
def fnExactSymmetriesWrong : ChangeSpec := { name := "fnExactSymmetries", fn := fun _ => fun
  | [d] => { results := [.lit (.bool false)], args := [d] }
  | _ => none }
def FnExactSymmetriesWrongFalsely : Prop := fnExactSymmetriesRow.holds Try.pinned (OpenSpec.ofChange fnExactSymmetriesWrong)

/-- 'laws.FnExactFreeOf': WHATEVER THE INPUT: true; the input reads as it did. -/
def fnExactFreeOfSpec : ChangeSpec := { name := "fnExactFreeOf", fn := fun _ => fun
  | [d1, d2] => { results := [.lit (.bool true)], args := [d1, d2] }
  | _ => none }
def fnExactFreeOfRow : OpenClaim := { program := "ytakcoihndobmpaa", sum := "f4d72b6fe7b7239d12eeb05061e13f64da3ae060e17ec7d82335e463d0cb0aae", func := "loop.example/g00871/laws.FnExactFreeOf", spec := "fnExactFreeOf", unfollowed := true, recurses := true, apart := false }
def FnExactFreeOfSaid : Prop := fnExactFreeOfRow.holds Try.pinned (OpenSpec.ofChange fnExactFreeOfSpec)

/-- ITS FALSE NEIGHBOUR: 'it returns false'. Refute it at one input. -/
def fnExactFreeOfWrong : ChangeSpec := { name := "fnExactFreeOf", fn := fun _ => fun
  | [d1, d2] => { results := [.lit (.bool false)], args := [d1, d2] }
  | _ => none }
def FnExactFreeOfWrongFalsely : Prop := fnExactFreeOfRow.holds Try.pinned (OpenSpec.ofChange fnExactFreeOfWrong)

/-- 'laws.FnExactAlikeIn': WHATEVER THE INPUT: true; the input reads as it did. -/
def fnExactAlikeInSpec : ChangeSpec := { name := "fnExactAlikeIn", fn := fun _ => fun
  | [d1, d2] => { results := [.lit (.bool true)], args := [d1, d2] }
  | _ => none }
def fnExactAlikeInRow : OpenClaim := { program := "ytakcoihndobmpaa", sum := "f4d72b6fe7b7239d12eeb05061e13f64da3ae060e17ec7d82335e463d0cb0aae", func := "loop.example/g00871/laws.FnExactAlikeIn", spec := "fnExactAlikeIn", unfollowed := true, recurses := true, apart := false }
def FnExactAlikeInSaid : Prop := fnExactAlikeInRow.holds Try.pinned (OpenSpec.ofChange fnExactAlikeInSpec)

/-- ITS FALSE NEIGHBOUR: 'it returns false'. Refute it at one input. -/
def fnExactAlikeInWrong : ChangeSpec := { name := "fnExactAlikeIn", fn := fun _ => fun
  | [d1, d2] => { results := [.lit (.bool false)], args := [d1, d2] }
  | _ => none }
def FnExactAlikeInWrongFalsely : Prop := fnExactAlikeInRow.holds Try.pinned (OpenSpec.ofChange fnExactAlikeInWrong)

/-- 'laws.FnExactEmbedsIn': WHATEVER THE INPUT: true; the input reads as it did. -/
def fnExactEmbedsInSpec : ChangeSpec := { name := "fnExactEmbedsIn", fn := fun _ => fun
  | [d1, d2] => { results := [.lit (.bool true)], args := [d1, d2] }
  | _ => none }
def fnExactEmbedsInRow : OpenClaim := { program := "ytakcoihndobmpaa", sum := "f4d72b6fe7b7239d12eeb05061e13f64da3ae060e17ec7d82335e463d0cb0aae", func := "loop.example/g00871/laws.FnExactEmbedsIn", spec := "fnExactEmbedsIn", unfollowed := true, recurses := true, apart := false }
def FnExactEmbedsInSaid : Prop := fnExactEmbedsInRow.holds Try.pinned (OpenSpec.ofChange fnExactEmbedsInSpec)

/-- ITS FALSE NEIGHBOUR: 'it returns false'. Refute it at one input. -/
def fnExactEmbedsInWrong : ChangeSpec := { name := "fnExactEmbedsIn", fn := fun _ => fun
  | [d1, d2] => { results := [.lit (.bool false)], args := [d1, d2] }
  | _ => none }
def FnExactEmbedsInWrongFalsely : Prop := fnExactEmbedsInRow.holds Try.pinned (OpenSpec.ofChange fnExactEmbedsInWrong)

/-- 'laws.FnExactFourPath': WHATEVER THE INPUT: true; the input reads as it did. -/
def fnExactFourPathSpec : ChangeSpec := { name := "fnExactFourPath", fn := fun _ => fun
  | [d] => { results := [.lit (.bool true)], args := [d] }
  | _ => none }
def fnExactFourPathRow : OpenClaim := { program := "ytakcoihndobmpaa", sum := "f4d72b6fe7b7239d12eeb05061e13f64da3ae060e17ec7d82335e463d0cb0aae", func := "loop.example/g00871/laws.FnExactFourPath", spec := "fnExactFourPath", unfollowed := true, recurses := true, apart := false }
def FnExactFourPathSaid : Prop := fnExactFourPathRow.holds Try.pinned (OpenSpec.ofChange fnExactFourPathSpec)

/-- ITS FALSE NEIGHBOUR: 'it returns false'. Refute it at one input. -/
def fnExactFourPathWrong : ChangeSpec := { name := "fnExactFourPath", fn := fun _ => fun
  | [d] => { results := [.lit (.bool false)], args := [d] }
  | _ => none }
def FnExactFourPathWrongFalsely : Prop := fnExactFourPathRow.holds Try.pinned (OpenSpec.ofChange fnExactFourPathWrong)

/- THE SECOND FORM. 'bulk': how many values and letters a reading holds, each counted each time it is reached (what is shared counts as often as it is met; a slice's spare places count too). A statement '..UptoSaid' is the law's where the arguments, and the package variables that the reading takes, are together of bulk at most 1048576: NARROWER than '..Said'. Prove '..Said' where nothing that the law and all that it calls make is longer than what came in: it says more and counts as full. Else prove '..UptoSaid'. A law counts once. -/
mutual
def uptoBulk {H : Type} : DataW H → Nat
  | .lit (.string bytes) => bytes.length + 1
  | .lit _ => 1
  | .nil => 1
  | .ptr d => uptoBulk d + 1
  | .slice elems spare => uptoBulkAll elems + uptoBulkAll spare + 1
  | .agg parts => uptoBulkAll parts + 1
  | .iface _ d => uptoBulk d + 1
  | .map entries => uptoBulkEntries entries + 1
  | .held _ => 1
def uptoBulkAll {H : Type} : List (DataW H) → Nat
  | [] => 0
  | d :: r => uptoBulk d + uptoBulkAll r
def uptoBulkEntries {H : Type} : List (Lit × DataW H) → Nat
  | [] => 0
  | x :: r => uptoBulkEntry x + uptoBulkEntries r
def uptoBulkEntry {H : Type} : Lit × DataW H → Nat
  | (.string bytes, d) => bytes.length + uptoBulk d + 1
  | (_, d) => uptoBulk d + 1
 end
def uptoSmall : (H : Type) → List (DataW H) → Bool := fun _ ds => decide (uptoBulkAll ds ≤ 1048576)
def OpenSpec.upto (s : _root_.Go.ChangeSpec) : _root_.Go.OpenSpec := { _root_.Go.OpenSpec.ofChange s with cond := some uptoSmall }

/-- 'laws.FnExactSymmetries', WHERE WHAT IT READS IS OF BULK AT MOST 1048576: true; the input reads as it did. -/
def fnExactSymmetriesUptoRow : OpenClaim := { program := "ytakcoihndobmpaa", sum := "f4d72b6fe7b7239d12eeb05061e13f64da3ae060e17ec7d82335e463d0cb0aae", func := "loop.example/g00871/laws.FnExactSymmetries", spec := "fnExactSymmetries", unfollowed := true, recurses := true, apart := false, narrowed := true }
def FnExactSymmetriesUptoSaid : Prop := fnExactSymmetriesUptoRow.holds Try.pinned (OpenSpec.upto fnExactSymmetriesSpec)

/-- 'laws.FnExactFreeOf', WHERE WHAT IT READS IS OF BULK AT MOST 1048576: true; the input reads as it did. -/
def fnExactFreeOfUptoRow : OpenClaim := { program := "ytakcoihndobmpaa", sum := "f4d72b6fe7b7239d12eeb05061e13f64da3ae060e17ec7d82335e463d0cb0aae", func := "loop.example/g00871/laws.FnExactFreeOf", spec := "fnExactFreeOf", unfollowed := true, recurses := true, apart := false, narrowed := true }
def FnExactFreeOfUptoSaid : Prop := fnExactFreeOfUptoRow.holds Try.pinned (OpenSpec.upto fnExactFreeOfSpec)

/-- 'laws.FnExactAlikeIn', WHERE WHAT IT READS IS OF BULK AT MOST 1048576: true; the input reads as it did. -/
def fnExactAlikeInUptoRow : OpenClaim := { program := "ytakcoihndobmpaa", sum := "f4d72b6fe7b7239d12eeb05061e13f64da3ae060e17ec7d82335e463d0cb0aae", func := "loop.example/g00871/laws.FnExactAlikeIn", spec := "fnExactAlikeIn", unfollowed := true, recurses := true, apart := false, narrowed := true }
def FnExactAlikeInUptoSaid : Prop := fnExactAlikeInUptoRow.holds Try.pinned (OpenSpec.upto fnExactAlikeInSpec)

/-- 'laws.FnExactEmbedsIn', WHERE WHAT IT READS IS OF BULK AT MOST 1048576: true; the input reads as it did. -/
def fnExactEmbedsInUptoRow : OpenClaim := { program := "ytakcoihndobmpaa", sum := "f4d72b6fe7b7239d12eeb05061e13f64da3ae060e17ec7d82335e463d0cb0aae", func := "loop.example/g00871/laws.FnExactEmbedsIn", spec := "fnExactEmbedsIn", unfollowed := true, recurses := true, apart := false, narrowed := true }
def FnExactEmbedsInUptoSaid : Prop := fnExactEmbedsInUptoRow.holds Try.pinned (OpenSpec.upto fnExactEmbedsInSpec)

/-- 'laws.FnExactFourPath', WHERE WHAT IT READS IS OF BULK AT MOST 1048576: true; the input reads as it did. -/
def fnExactFourPathUptoRow : OpenClaim := { program := "ytakcoihndobmpaa", sum := "f4d72b6fe7b7239d12eeb05061e13f64da3ae060e17ec7d82335e463d0cb0aae", func := "loop.example/g00871/laws.FnExactFourPath", spec := "fnExactFourPath", unfollowed := true, recurses := true, apart := false, narrowed := true }
def FnExactFourPathUptoSaid : Prop := fnExactFourPathUptoRow.holds Try.pinned (OpenSpec.upto fnExactFourPathSpec)

end Rows
end Go.Proofs.Ytakcoihndobmpaa
