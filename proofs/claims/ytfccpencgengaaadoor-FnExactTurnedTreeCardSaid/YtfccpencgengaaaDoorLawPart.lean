/- PartsOk of the program; the laws of trees of parts, walked. -/
import Derived.Test.YtfccpencgengaaaDoorPartL
namespace Go.Proofs.YtfccpencgengaaaDoor
open Go.RowKit
theorem small_len {t : List PNode} (h : SmallP t 1048576) : t.length ≤ 1048576 := by have := h.1; omega
theorem implPartsOk_any {S : Nat → Prop} {v : Value} {t : List PNode} {w : World} (ht : Tab w) (hv : SlP S w v t) (hn : t.length ≤ 1048576) :
    Calls Tryd.prog 109 #[v] w fun e w' => e = .returned (.bool (partsB t)) ∧ Below w.heap.size w w' := by
  go_enter Tryd.func109, Tryd.ntmps109
  go_wp2_with (go_at_call 119; refine (subtreeLeaves_any ht hv hn).mono ?_; rintro e w1 ⟨u, rfl, -, hb1⟩)
  go_ret
  exact ⟨rfl, hb1⟩
