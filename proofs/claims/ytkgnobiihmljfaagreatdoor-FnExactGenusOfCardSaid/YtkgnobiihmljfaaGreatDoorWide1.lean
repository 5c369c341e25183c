/- Widths: the small functions. -/
import Derived.Test.YtkgnobiihmljfaaGreatDoorWide0
import Derived.Test.YtkgnobiihmljfaaGreatDoorGok
namespace Go.Proofs.YtkgnobiihmljfaaGreatDoor
open Go.RowKit
noncomputable def wideB (g : List (List Int)) : Bool := gokB g && decide (g.length ≤ 10)
theorem WideI.of {g : List (List Int)} (hg : GOk g) : WideI (netsL g) g.length := by
  refine ⟨by simp [netsL], hg.hi, fun m hm => ?_⟩
  unfold netsL at hm
  obtain ⟨r, hr, rfl⟩ := List.mem_map.1 hm
  obtain ⟨u, hu, rfl⟩ := List.getElem_of_mem hr
  exact maskL_lt fun x hx => hg.ge hu x hx
theorem wSize_any {S : Nat → Prop} {v : Value} {g : List (List Int)} {w : World} (hv : SlR S w v g) : Calls Tryz.prog 96 #[.agg #[v]] w fun e w' => e = .returned (.int .i64 (g.length : Int)) ∧ Below w.heap.size w w' := by
  have hb : Below w.heap.size w (w.alloc (.cells #[v] 30)) := (Below.refl _ _).alloc (Nat.le_refl _) _
  have hlen := hv.len
  obtain ⟨va, vc, rfl⟩ := hv.slice
  go_enter Tryz.func96, Tryz.ntmps96
  go_wp2
  go_ret
  exact ⟨rfl, hb⟩
