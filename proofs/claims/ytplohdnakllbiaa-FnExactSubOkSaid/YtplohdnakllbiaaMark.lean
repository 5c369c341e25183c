/- What the laws write into results and read again: marks. -/
import Derived.Test.YtplohdnakllbiaaLaws
namespace Go.Proofs.Ytplohdnakllbiaa
open Go.RowKit
/-- The marks k, k + 1, .. -/
def marksL (k : Int) (n : Nat) : List Int := (List.range n).map fun i : Nat => k + (i : Int)
theorem marksL_len (k : Int) (n : Nat) : (marksL k n).length = n := by simp [marksL]
theorem marksL_get {k : Int} {n i : Nat} (h : i < (marksL k n).length) : (marksL k n)[i] = k + (i : Int) := by simp [marksL]
/-- The first j are marked, the others are as they were. -/
def marked (k : Int) (xs : List Int) (j : Nat) : List Int := marksL k j ++ xs.drop j
theorem marked_zero (k : Int) (xs : List Int) : marked k xs 0 = xs := by simp [marked, marksL]
theorem marked_all (k : Int) (xs : List Int) : marked k xs xs.length = marksL k xs.length := by simp [marked]
theorem marksL_succ (k : Int) (n : Nat) : marksL k (n + 1) = marksL k n ++ [k + (n : Int)] := by simp [marksL, List.range_succ]
theorem marked_set {k : Int} {xs : List Int} {j : Nat} (hj : j < xs.length) : (marked k xs j).set j (k + (j : Int)) = marked k xs (j + 1) := by
  unfold marked
  rw [List.drop_eq_getElem_cons hj, List.set_append, if_neg (by rw [marksL_len]; omega), marksL_len, Nat.sub_self, List.set_cons_zero, marksL_succ]
  simp
