/- The reference's search for a pattern: its contract. -/
import Derived.Test.YthpbeiihlembnaaDoorFit4
namespace Go.Proofs.YthpbeiihlembnaaDoor
open Go.RowKit
theorem okGTo_mono {g p : List (List Int)} {q : List Nat} {v r k : Nat} (h : okGTo g p q v r = false) (hk : r ≤ k) : okGTo g p q v k = false := by
  obtain ⟨m, rfl⟩ : ∃ m, k = r + m := ⟨k - r, by omega⟩
  induction m with
  | zero => exact h
  | succ m ih => rw [← Nat.add_assoc, okGTo_succ, ih (by omega)]; rfl
theorem decide_natsI {q : List Nat} {v : Nat} : decide ((v : Int) ∈ natsI q) = decide (v ∈ q) := by
  rw [decide_eq_decide]
  simp only [natsI, List.mem_map]
  constructor
  · rintro ⟨a, ha, he⟩; have : a = v := by omega
    rw [← this]; exact ha
  · intro h; exact ⟨v, h, rfl⟩
def ResL (S : Nat → Prop) (res : List Nat) (w : World) (e : Ending) (w' : World) : Prop := ∃ r, e = .returned r ∧ SlI S w' .i64 r (natsI res) ∧ Below w.heap.size w w'
