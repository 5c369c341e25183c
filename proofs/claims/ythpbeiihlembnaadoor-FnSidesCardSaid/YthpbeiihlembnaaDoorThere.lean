/- Is there a vertex, is there an edge? By the reference. -/
import Derived.Test.YthpbeiihlembnaaDoorFit4
namespace Go.Proofs.YthpbeiihlembnaaDoor
open Go.RowKit
theorem l1There_any {S : Nat → Prop} {v : Value} {g : List (List Int)} {x : Int} {w : World} (hg : g.length ≤ 16) (hv : SlR S w v g) :
    Calls Tryd.prog 165 #[.agg #[v], .int .i64 x] w fun e w' => e = .returned (.bool (inB x 0 ((g.length : Int) - 1))) ∧ Below w.heap.size w w' := by
  have hq0 : Below w.heap.size w (w.alloc (.cells #[v] 29)) := (Below.refl _ _).alloc (Nat.le_refl _) _
  have hsz := l1Size_any (hv.below hq0 (Nat.le_refl _))
  have hw1 : IntKind.i64.wrap ((g.length : Int) - 1) = (g.length : Int) - 1 := IntWalk.i64_in _ (by omega)
  obtain ⟨va, vc, rfl⟩ := hv.slice
  go_enter Tryd.func165, Tryd.ntmps165
  go_wp2_with fail
  refine hsz.mono ?_
  rintro e w1 ⟨rfl, hb1⟩
  go_wp2_with (go_at_call 102; refine (l1In_any _ _ _ _).mono ?_; rintro e w' ⟨rfl, rfl⟩)
  go_ret
  exact ⟨rfl, hq0.trans (hb1.mono hq0.size)⟩
end Go.Proofs.YthpbeiihlembnaaDoor
