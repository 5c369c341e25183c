/- What can be reached from what can be reached: plain facts. -/
import Derived.Test.YtbpjbjeglcphcaaGreatDoorReachM
namespace Go.Proofs.YtbpjbjeglcphcaaGreatDoor
open Go.RowKit
theorem reach_eq {a : List Nat} {wi v x : Nat} (hw : wi < 4294967296) (hs : SymN a wi) (hv : wi.testBit v = true) (hx : (reachN a wi v).testBit x = true) : reachN a wi x = reachN a wi v := by
  have hv32 := bit_lt_of (n := 32) hw hv
  have hxw := reach_sub hw hv hx
  have hx32 := bit_lt_of (n := 32) hw hxw
  have h1 : ∀ i, (reachN a wi x).testBit i = true → (reachN a wi v).testBit i = true := fun i => reach_least hw hx32 (reach_closed hw hv32) hx
  have hvx : (reachN a wi x).testBit v = true := by
    apply Classical.byContradiction
    intro hno
    have hR := reachN_lt a wi v
    have hC := reachN_lt a wi x
    have h2 := reach_least (M := andN (reachN a wi v) (reachN a wi x)) hw hv32 (fun y hy u hu hb => ?_) ?_ hx
    · rw [testBit_andN hR hC, reach_start hw hx32] at h2
      simp at h2
    · rw [testBit_andN hR hC] at hy ⊢
      simp only [Bool.and_eq_true, Bool.not_eq_true'] at hy ⊢
      refine ⟨reach_closed hw hv32 y hy.1 u hu hb, ?_⟩
      cases hcu : (reachN a wi x).testBit u
      · rfl
      · have hyw := reach_sub hw hv hy.1
        have := reach_closed hw hx32 u hcu y hyw (hs y u hyw hu hb)
        rw [this] at hy; cases hy.2
    · rw [testBit_andN hR hC, reach_start hw hv32]
      simpa using hno
  apply nat_ext
  intro i
  rw [Bool.eq_iff_iff]
  exact ⟨h1 i, fun hi => reach_least hw hv32 (reach_closed hw hx32) hvx hi⟩
end Go.Proofs.YtbpjbjeglcphcaaGreatDoor
