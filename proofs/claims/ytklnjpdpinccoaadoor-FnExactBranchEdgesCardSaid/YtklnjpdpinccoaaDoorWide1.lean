/- Widths: the small functions. -/
import Derived.Test.YtklnjpdpinccoaaDoorWide0
import Derived.Test.YtklnjpdpinccoaaDoorGok
namespace Go.Proofs.YtklnjpdpinccoaaDoor
open Go.RowKit
noncomputable def wideB (g : List (List Int)) : Bool := gokB g && decide (g.length ≤ 10)
theorem WideI.of {g : List (List Int)} (hg : GOk g) : WideI (netsL g) g.length := by
  refine ⟨by simp [netsL], hg.hi, fun m hm => ?_⟩
  unfold netsL at hm
  obtain ⟨r, hr, rfl⟩ := List.mem_map.1 hm
  obtain ⟨u, hu, rfl⟩ := List.getElem_of_mem hr
  exact maskL_lt fun x hx => hg.ge hu x hx
theorem wSize_any {S : Nat → Prop} {v : Value} {g : List (List Int)} {w : World} (hv : SlR S w v g) : Calls Tryd.prog 83 #[.agg #[v]] w fun e w' => e = .returned (.int .i64 (g.length : Int)) ∧ Below w.heap.size w w' := by
  have hb : Below w.heap.size w (w.alloc (.cells #[v] 27)) := (Below.refl _ _).alloc (Nat.le_refl _) _
  have hlen := hv.len
  obtain ⟨va, vc, rfl⟩ := hv.slice
  go_enter Tryd.func83, Tryd.ntmps83
  go_wp2
  go_ret
  exact ⟨rfl, hb⟩
theorem wFlag_any (b : Bool) (w : World) : Calls Tryd.prog 166 #[.bool b] w fun e w' => e = .returned (.int .i64 (if b = true then 1 else 0)) ∧ w = w' := by
  cases b
  · go_enter Tryd.func166, Tryd.ntmps166
    go_wp2
    go_ret
    exact ⟨rfl, rfl⟩
  · go_enter Tryd.func166, Tryd.ntmps166
    go_wp2
    go_ret
    exact ⟨rfl, rfl⟩
