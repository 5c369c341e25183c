/- Marks written into a slice of slices and read again, exactly; equal results. -/
import Derived.Test.YtbpjbjeglcphcaaGreatDoorMark3
namespace Go.Proofs.YtbpjbjeglcphcaaGreatDoor
open Go.RowKit
def sumL (g : List (List Int)) : Nat := (g.map List.length).sum
def sumTL (g : List (List Int)) (j : Nat) : Nat := sumL (g.take j)
theorem sumTL_succ {g : List (List Int)} {j : Nat} (hj : j < g.length) : sumTL g (j + 1) = sumTL g j + g[j].length := by
  unfold sumTL sumL
  rw [List.take_succ_eq_append_getElem hj, List.map_append, List.sum_append]; simp
theorem sumTL_all (g : List (List Int)) : sumTL g g.length = sumL g := by unfold sumTL; rw [List.take_length]
theorem sumTL_le {g : List (List Int)} (hs : SmallR g 1048576) : ∀ j, j ≤ g.length → sumTL g j ≤ 1048576 * j
  | 0, _ => by simp [sumTL, sumL]
  | j + 1, hj => by
    have := sumTL_le hs j (by omega)
    have h2 := hs.2 j (by omega) (by omega)
    rw [sumTL_succ (by omega)]; omega
theorem sumTL_small {g : List (List Int)} (hs : SmallR g 1048576) {j : Nat} (hj : j ≤ g.length) : sumTL g j ≤ 1099511627776 := by
  have h1 := sumTL_le hs j hj
  have h2 := hs.1
  have h3 : 1048576 * j ≤ 1048576 * 1048576 := Nat.mul_le_mul_left _ (by omega)
  omega
/-- The rows of marks. -/
def marksR (k : Int) (g : List (List Int)) : List (List Int) := (List.range g.length).map fun i => marksL (k + (sumTL g i : Int)) (g.getD i []).length
theorem marksR_len (k : Int) (g : List (List Int)) : (marksR k g).length = g.length := by simp [marksR]
theorem marksR_get {k : Int} {g : List (List Int)} {i : Nat} (h : i < (marksR k g).length) (h2 : i < g.length) : (marksR k g)[i] = marksL (k + (sumTL g i : Int)) g[i].length := by simp [marksR, h2]
theorem marksR_small {k : Int} {g : List (List Int)} (hs : SmallR g 1048576) : SmallR (marksR k g) 1048576 := by
  refine ⟨by rw [marksR_len]; exact hs.1, fun i hi _ => ?_⟩
  have h2 : i < g.length := by rw [marksR_len] at hi; exact hi
  rw [marksR_get hi h2, marksL_len]
  exact hs.2 i h2 h2
theorem SlR.betweenR {S : Nat → Prop} {w w' : World} {v : Value} {g : List (List Int)} {B C : Nat} (h : SlR S w v g) (hb : Between B C w w') (hS : ∀ b, S b → b < w.heap.size ∧ (b < B ∨ C ≤ b)) : SlR S w' v g :=
  h.keep fun b hSb => hb.block b (hS b hSb).1 (hS b hSb).2
theorem eqR_same {S S' : Nat → Prop} {v u : Value} {xs : List (List Int)} {w : World} (hv : SlR S w v xs) (hu : SlR S' w u xs) :
    Calls Tryz.prog 35 #[v, u] w fun e w' => e = .returned (.bool true) ∧ Below w.heap.size w w' := by
  refine (eqInt64SS_any _ _ _ _ _ hv hu).mono ?_
  rintro e w' ⟨rfl, hd⟩
  exact ⟨by rw [decide_eq_true rfl], hd.below _⟩
