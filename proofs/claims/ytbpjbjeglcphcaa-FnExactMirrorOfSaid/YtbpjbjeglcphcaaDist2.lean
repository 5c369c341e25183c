/- Distances inside a set, by the reference: a queue. -/
import Derived.Test.YtbpjbjeglcphcaaDist1
import Derived.Test.YtbpjbjeglcphcaaQueue
import Derived.Test.YtbpjbjeglcphcaaSets
import Derived.Test.YtbpjbjeglcphcaaJoin
namespace Go.Proofs.Ytbpjbjeglcphcaa
open Go.RowKit
theorem ball_many {a : List Nat} {wi v n : Nat} (h : DistI a wi v n) : ∀ (j x : Nat), (ballN a wi v j).testBit x = true → (∀ i, i < j → (ballN a wi v i).testBit x = false) → j + 1 ≤ popN (ballN a wi v j)
  | 0, x, hx, _ => by
    have := pop_more (a := 0) (b := ballN a wi v 0) (by omega) (ball_lt32 h 0) (fun i hi => by simp at hi) hx (by simp)
    omega
  | j + 1, x, hx, hn => by
    rcases (ball_succ h j x).1 hx with h1 | ⟨hw, y, hy, hb⟩
    · rw [hn j (by omega)] at h1; cases h1
    · have ih := ball_many h j y hy (fun i hi => by
        cases e : (ballN a wi v i).testBit y
        · rfl
        · have : (ballN a wi v (i + 1)).testBit x = true := (ball_succ h i x).2 (.inr ⟨hw, y, e, hb⟩)
          rw [hn (i + 1) (by omega)] at this; cases this)
      have := pop_more (ball_lt32 h j) (ball_lt32 h (j + 1)) (fun i hi => ball_mono h hi (Nat.le_succ j)) hx (hn j (by omega))
      omega
theorem DP.xsmall {a : List Nat} {wi v n : Nat} {D : Nat → Int} {M d x : Nat} {T Q1 Q2 : List Nat} (hI : DistI a wi v n) (h : DP a wi v n D M d x T Q1 Q2) : 0 ≤ D x ∧ D x ≤ 16 := by
  have h16 := hI.wide.le
  rcases h.cor x (bit_lt_of h.lt h.hx.1) with ⟨_, h2⟩ | ⟨_, j, _, h2, h3, h4⟩
  · rw [h.hx.1] at h2; cases h2
  · have := ball_many hI j x h3 h4
    have := popN_pow (by omega) (ball_lt hI j)
    omega
/-- How many have no distance yet. -/
def negD (D : Nat → Int) (n : Nat) : Nat := ((List.range n).filter fun u => decide (D u < 0)).length
def negW (w : World) (ob n : Nat) : Nat := ((List.range n).filter fun u => match w.cell? ⟨ob, u, none⟩ with | some (.int _ x) => decide (x < 0) | _ => false).length
theorem negW_row {w : World} {ob n : Nat} {D : Nat → Int} (h : Row w ob n (tabV D)) : negW w ob n = negD D n := by
  unfold negW negD
  congr 1
  apply List.filter_congr
  intro u hu
  have h1 := (h u (List.mem_range.1 hu)).1
  unfold tabV at h1
  rw [h1]
theorem negD_set {D : Nat → Int} {n u : Nat} {x : Int} (hu : u < n) (h : D u < 0) (hx : 0 ≤ x) : negD (fun y => if u = y then x else D y) n + 1 = negD D n := by
  unfold negD
  rw [← filter_less (p := fun u => decide (D u < 0)) (v := u) List.nodup_range (List.mem_range.2 hu) (by simpa using h)]
  congr 2
  apply List.filter_congr
  intro y _
  by_cases e : u = y
  · subst e; simp; omega
  · simp [e]
theorem negD_le (D : Nat → Int) (n : Nat) : negD D n ≤ n := by
  have := List.length_filter_le (fun u => decide (D u < 0)) (List.range n)
  simpa [negD] using this
