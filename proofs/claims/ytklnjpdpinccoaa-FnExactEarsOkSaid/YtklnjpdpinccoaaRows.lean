/-
  No cell of these rows narrows 'for every input' (looked for: loops, veiled, ifaces, maps, wideKeys, modest, calm, conditions, laid).
  DERIVED. THE GIVEN ROWS OF THIS SEAT. 5 by the template 'for every input the law returns true; each argument reads behind the call as it read before'; 0 by the template 'total and deterministic' (their statements: YtklnjpdpinccoaaTotals.lean).
  GIVEN WITH THE SEED: the statements are not yours to turn. If you find one false, say at which input.
  Laid BY PROGRAM, IN A SANDBOX (cutbox-rows.mjs): the forced cells as the released guide's own fill.sh prints them over the translation fc7ac0bc4e2ef93a… (all of the seat's roots in one cut). By AI agents, Wed Nov 11 2026. No macro, syntax, notation, axiom, sorry.
-/
import Derived.Test.YtklnjpdpinccoaaChecked
import GoSem.Claim
import GoSem.ClaimJoined
import GoSem.ClaimMapViews
import Derived.JoinedTies
import Derived.KernelRfl
namespace Go.Proofs.Ytklnjpdpinccoaa
/- THE CELL 'sum', in the pinned program and in every row, IS THE sha256 OF THE DUMP (.gsa) THAT YtklnjpdpinccoaaProg.lean LOADS. Nothing in Lean hashes anything: it is a label: what it is worth is what the hold of that sum in a sandbox is worth. -/
noncomputable def Try.pinned : Pinned := { name := "ytklnjpdpinccoaa", sum := "fc7ac0bc4e2ef93a0b6ea33d666a0248927c3cb31ca1c091c6d4397d5e5adc9d", checked := Try.checked }
namespace Rows
def none {H : Type} : Left H := { results := [], args := [] }

/-- 'laws.FnExactOrbitsOf': WHATEVER THE INPUT: true; the input reads as it did. -/
def fnExactOrbitsOfSpec : ChangeSpec := { name := "fnExactOrbitsOf", fn := fun _ => fun
  | [d] => { results := [.lit (.bool true)], args := [d] }
  | _ => none }
def fnExactOrbitsOfRow : OpenClaim := { program := "ytklnjpdpinccoaa", sum := "fc7ac0bc4e2ef93a0b6ea33d666a0248927c3cb31ca1c091c6d4397d5e5adc9d", func := "loop.example/g00871/laws.FnExactOrbitsOf", spec := "fnExactOrbitsOf", unfollowed := true, recurses := true, apart := false }
def FnExactOrbitsOfSaid : Prop := fnExactOrbitsOfRow.holds Try.pinned (OpenSpec.ofChange fnExactOrbitsOfSpec)

/-- ITS FALSE NEIGHBOUR: 'it returns false'. Refute it at one input. -/
def fnExactOrbitsOfWrong : ChangeSpec := { name := "fnExactOrbitsOf", fn := fun _ => fun
  | [d] => { results := [.lit (.bool false)], args := [d] }
  | _ => none }
def FnExactOrbitsOfWrongFalsely : Prop := fnExactOrbitsOfRow.holds Try.pinned (OpenSpec.ofChange fnExactOrbitsOfWrong)

/-- 'laws.FnExactEarsOk': WHATEVER THE INPUT: true; the input reads as it did. -/
def fnExactEarsOkSpec : ChangeSpec := { name := "fnExactEarsOk", fn := fun _ => fun
  | [d1, d2] => { results := [.lit (.bool true)], args := [d1, d2] }
  | _ => none }
def fnExactEarsOkRow : OpenClaim := { program := "ytklnjpdpinccoaa", sum := "fc7ac0bc4e2ef93a0b6ea33d666a0248927c3cb31ca1c091c6d4397d5e5adc9d", func := "loop.example/g00871/laws.FnExactEarsOk", spec := "fnExactEarsOk", unfollowed := true, recurses := true, apart := false }
def FnExactEarsOkSaid : Prop := fnExactEarsOkRow.holds Try.pinned (OpenSpec.ofChange fnExactEarsOkSpec)

/-- ITS FALSE NEIGHBOUR: 'it returns false'. Refute it at one input. -/
def fnExactEarsOkWrong : ChangeSpec := { name := "fnExactEarsOk", fn := fun _ => fun
  | [d1, d2] => { results := [.lit (.bool false)], args := [d1, d2] }
  | _ => none }
def FnExactEarsOkWrongFalsely : Prop := fnExactEarsOkRow.holds Try.pinned (OpenSpec.ofChange fnExactEarsOkWrong)

/-- 'laws.FnExactSubOk': WHATEVER THE INPUT: true; the input reads as it did. -/
def fnExactSubOkSpec : ChangeSpec := { name := "fnExactSubOk", fn := fun _ => fun
  | [d1, d2] => { results := [.lit (.bool true)], args := [d1, d2] }
  | _ => none }
def fnExactSubOkRow : OpenClaim := { program := "ytklnjpdpinccoaa", sum := "fc7ac0bc4e2ef93a0b6ea33d666a0248927c3cb31ca1c091c6d4397d5e5adc9d", func := "loop.example/g00871/laws.FnExactSubOk", spec := "fnExactSubOk", apart := false }
def FnExactSubOkSaid : Prop := fnExactSubOkRow.holds Try.pinned (OpenSpec.ofChange fnExactSubOkSpec)

/-- ITS FALSE NEIGHBOUR: 'it returns false'. Refute it at one input. -/
def fnExactSubOkWrong : ChangeSpec := { name := "fnExactSubOk", fn := fun _ => fun
  | [d1, d2] => { results := [.lit (.bool false)], args := [d1, d2] }
  | _ => none }
def FnExactSubOkWrongFalsely : Prop := fnExactSubOkRow.holds Try.pinned (OpenSpec.ofChange fnExactSubOkWrong)

/-- 'laws.FnExactAroundOk': WHATEVER THE INPUT: true; the input reads as it did. -/
def fnExactAroundOkSpec : ChangeSpec := { name := "fnExactAroundOk", fn := fun _ => fun
  | [d1, d2] => { results := [.lit (.bool true)], args := [d1, d2] }
  | _ => none }
def fnExactAroundOkRow : OpenClaim := { program := "ytklnjpdpinccoaa", sum := "fc7ac0bc4e2ef93a0b6ea33d666a0248927c3cb31ca1c091c6d4397d5e5adc9d", func := "loop.example/g00871/laws.FnExactAroundOk", spec := "fnExactAroundOk", unfollowed := true, recurses := true, apart := false }
def FnExactAroundOkSaid : Prop := fnExactAroundOkRow.holds Try.pinned (OpenSpec.ofChange fnExactAroundOkSpec)

/-- ITS FALSE NEIGHBOUR: 'it returns false'. Refute it at one input. -/
def fnExactAroundOkWrong : ChangeSpec := { name := "fnExactAroundOk", fn := fun _ => fun
  | [d1, d2] => { results := [.lit (.bool false)], args := [d1, d2] }
  | _ => none }
def FnExactAroundOkWrongFalsely : Prop := fnExactAroundOkRow.holds Try.pinned (OpenSpec.ofChange fnExactAroundOkWrong)

/-- 'laws.FnExactMirrorOf': WHATEVER THE INPUT: true; the input reads as it did. -/
def fnExactMirrorOfSpec : ChangeSpec := { name := "fnExactMirrorOf", fn := fun _ => fun
  | [d1, d2] => { results := [.lit (.bool true)], args := [d1, d2] }
  | _ => none }
def fnExactMirrorOfRow : OpenClaim := { program := "ytklnjpdpinccoaa", sum := "fc7ac0bc4e2ef93a0b6ea33d666a0248927c3cb31ca1c091c6d4397d5e5adc9d", func := "loop.example/g00871/laws.FnExactMirrorOf", spec := "fnExactMirrorOf", unfollowed := true, recurses := true, apart := false }
def FnExactMirrorOfSaid : Prop := fnExactMirrorOfRow.holds Try.pinned (OpenSpec.ofChange fnExactMirrorOfSpec)

/-- ITS FALSE NEIGHBOUR: 'it returns false'. Refute it at one input. -/
def fnExactMirrorOfWrong : ChangeSpec := { name := "fnExactMirrorOf", fn := fun _ => fun
  | [d1, d2] => { results := [.lit (.bool false)], args := [d1, d2] }
  | _ => none }
def FnExactMirrorOfWrongFalsely : Prop := fnExactMirrorOfRow.holds Try.pinned (OpenSpec.ofChange fnExactMirrorOfWrong)

/- THE SECOND FORM. 'bulk': how many values and letters a reading holds, each counted each time it is reached (what is shared counts as often as it is met; a slice's spare places count too). A statement '..UptoSaid' is the law's where the arguments, and the package variables that the reading takes, are together of bulk at most 1048576: NARROWER than '..Said'. Prove '..Said' where nothing that the law and all that it calls make is longer than what came in: it says more and counts as full. Else prove '..UptoSaid'. A law counts once. -/
mutual
def uptoBulk {H : Type} : DataW H → Nat
  | .lit (.string bytes) => bytes.length + 1
  | .lit _ => 1
  | .nil => 1
  | .ptr d => uptoBulk d + 1
  | .slice elems spare => uptoBulkAll elems + uptoBulkAll spare + 1
  | .agg parts => uptoBulkAll parts + 1
  | .iface _ d => uptoBulk d + 1
  | .map entries => uptoBulkEntries entries + 1
  | .held _ => 1
def uptoBulkAll {H : Type} : List (DataW H) → Nat
  | [] => 0
  | d :: r => uptoBulk d + uptoBulkAll r
def uptoBulkEntries {H : Type} : List (Lit × DataW H) → Nat
  | [] => 0
  | x :: r => uptoBulkEntry x + uptoBulkEntries r
def uptoBulkEntry {H : Type} : Lit × DataW H → Nat
  | (.string bytes, d) => bytes.length + uptoBulk d + 1
  | (_, d) => uptoBulk d + 1
 end
def uptoSmall : (H : Type) → List (DataW H) → Bool := fun _ ds => decide (uptoBulkAll ds ≤ 1048576)
def OpenSpec.upto (s : _root_.Go.ChangeSpec) : _root_.Go.OpenSpec := { _root_.Go.OpenSpec.ofChange s with cond := some uptoSmall }

/-- 'laws.FnExactOrbitsOf', WHERE WHAT IT READS IS OF BULK AT MOST 1048576: true; the input reads as it did. -/
def fnExactOrbitsOfUptoRow : OpenClaim := { program := "ytklnjpdpinccoaa", sum := "fc7ac0bc4e2ef93a0b6ea33d666a0248927c3cb31ca1c091c6d4397d5e5adc9d", func := "loop.example/g00871/laws.FnExactOrbitsOf", spec := "fnExactOrbitsOf", unfollowed := true, recurses := true, apart := false, narrowed := true }
def FnExactOrbitsOfUptoSaid : Prop := fnExactOrbitsOfUptoRow.holds Try.pinned (OpenSpec.upto fnExactOrbitsOfSpec)

/-- 'laws.FnExactEarsOk', WHERE WHAT IT READS IS OF BULK AT MOST 1048576: true; the input reads as it did. -/
def fnExactEarsOkUptoRow : OpenClaim := { program := "ytklnjpdpinccoaa", sum := "fc7ac0bc4e2ef93a0b6ea33d666a0248927c3cb31ca1c091c6d4397d5e5adc9d", func := "loop.example/g00871/laws.FnExactEarsOk", spec := "fnExactEarsOk", unfollowed := true, recurses := true, apart := false, narrowed := true }
def FnExactEarsOkUptoSaid : Prop := fnExactEarsOkUptoRow.holds Try.pinned (OpenSpec.upto fnExactEarsOkSpec)

/-- 'laws.FnExactSubOk', WHERE WHAT IT READS IS OF BULK AT MOST 1048576: true; the input reads as it did. -/
def fnExactSubOkUptoRow : OpenClaim := { program := "ytklnjpdpinccoaa", sum := "fc7ac0bc4e2ef93a0b6ea33d666a0248927c3cb31ca1c091c6d4397d5e5adc9d", func := "loop.example/g00871/laws.FnExactSubOk", spec := "fnExactSubOk", apart := false, narrowed := true }
def FnExactSubOkUptoSaid : Prop := fnExactSubOkUptoRow.holds Try.pinned (OpenSpec.upto fnExactSubOkSpec)

/-- 'laws.FnExactAroundOk', WHERE WHAT IT READS IS OF BULK AT MOST 1048576: true; the input reads as it did. -/
def fnExactAroundOkUptoRow : OpenClaim := { program := "ytklnjpdpinccoaa", sum := "fc7ac0bc4e2ef93a0b6ea33d666a0248927c3cb31ca1c091c6d4397d5e5adc9d", func := "loop.example/g00871/laws.FnExactAroundOk", spec := "fnExactAroundOk", unfollowed := true, recurses := true, apart := false, narrowed := true }
def FnExactAroundOkUptoSaid : Prop := fnExactAroundOkUptoRow.holds Try.pinned (OpenSpec.upto fnExactAroundOkSpec)

/-- 'laws.FnExactMirrorOf', WHERE WHAT IT READS IS OF BULK AT MOST 1048576: true; the input reads as it did. -/
def fnExactMirrorOfUptoRow : OpenClaim := { program := "ytklnjpdpinccoaa", sum := "fc7ac0bc4e2ef93a0b6ea33d666a0248927c3cb31ca1c091c6d4397d5e5adc9d", func := "loop.example/g00871/laws.FnExactMirrorOf", spec := "fnExactMirrorOf", unfollowed := true, recurses := true, apart := false, narrowed := true }
def FnExactMirrorOfUptoSaid : Prop := fnExactMirrorOfUptoRow.holds Try.pinned (OpenSpec.upto fnExactMirrorOfSpec)

end Rows
end Go.Proofs.Ytklnjpdpinccoaa
