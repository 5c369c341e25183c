/- Widths: the reference's number of a set, marks, table and what is behind. -/
import Derived.Test.YtdbanndcdbikmaaGreatDoorDistM
import Derived.Test.YtdbanndcdbikmaaGreatDoorMod3
import Derived.Test.YtdbanndcdbikmaaGreatDoorReach2
namespace Go.Proofs.YtdbanndcdbikmaaGreatDoor
open Go.RowKit
/-- Old blocks stand, but x and y. -/
structure Kept2 (w w' : World) (x y : Nat) : Prop where
  os : w'.os = w.os
  tape : w'.tape = w.tape
  output : w'.output = w.output
  size : w.heap.size ≤ w'.heap.size
  block : ∀ b, b < w.heap.size → b ≠ x → b ≠ y → w'.heap[b]? = w.heap[b]?
/-- n cells that may be stored to. -/
def Row (w : World) (b n : Nat) (f : Nat → Value) : Prop := ∀ i, i < n → w.cell? ⟨b, i, none⟩ = some (f i) ∧ w.frozen? ⟨b, i, none⟩ = false
/-- The marks of a set. -/
def markV (gone : Nat) : Nat → Value := fun i => .bool (gone.testBit i)
/-- The table of widths: what is there is right. -/
def Known (a : List Nat) (n : Nat) (K : Nat → Int) : Prop := ∀ c, c < 2 ^ n → K c = -1 ∨ K c = (widthN a n c : Int)
def tabV (K : Nat → Int) : Nat → Value := fun c => .int .i64 (K c)
noncomputable def wideB (g : List (List Int)) : Bool := gokB g && decide (g.length ≤ 10)
theorem wSize_any {S : Nat → Prop} {v : Value} {g : List (List Int)} {w : World} (hv : SlR S w v g) : Calls Tryz.prog 82 #[.agg #[v]] w fun e w' => e = .returned (.int .i64 (g.length : Int)) ∧ Below w.heap.size w w' := by
  have hb : Below w.heap.size w (w.alloc (.cells #[v] 26)) := (Below.refl _ _).alloc (Nat.le_refl _) _
  have hlen := hv.len
  obtain ⟨va, vc, rfl⟩ := hv.slice
  go_enter Tryz.func82, Tryz.ntmps82
  go_wp2
  go_ret
  exact ⟨rfl, hb⟩
def hiN (m v : Nat) : Nat := m / 2 ^ v
