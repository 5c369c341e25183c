/- Is there a tree of union and join? By the reference. -/
import Derived.Test.YthpbeiihlembnaaDoorCoTM
import Derived.Test.YthpbeiihlembnaaDoorParts3
import Derived.Test.YthpbeiihlembnaaDoorParts2
import Derived.Test.YthpbeiihlembnaaDoorFold3
namespace Go.Proofs.YthpbeiihlembnaaDoor
open Go.RowKit
noncomputable def coB (a b : List Nat) : Nat → Nat → Bool
  | 0, _ => false
  | n + 1, s => if popN s = 1 then true else if (coParts a b s).length = 1 then false else (coParts a b s).all (coB a b n)
theorem coB_leaf {a b : List Nat} {n s : Nat} (h : popN s = 1) : coB a b (n + 1) s = true := by rw [coB, if_pos h]
theorem coB_one {a b : List Nat} {n s : Nat} (h : popN s ≠ 1) (h1 : (coParts a b s).length = 1) : coB a b (n + 1) s = false := by rw [coB, if_neg h, if_pos h1]
theorem coB_all {a b : List Nat} {n s : Nat} (h : popN s ≠ 1) (h1 : (coParts a b s).length ≠ 1) (h2 : ∀ j (hj : j < (coParts a b s).length), coB a b n (coParts a b s)[j] = true) : coB a b (n + 1) s = true := by
  rw [coB, if_neg h, if_neg h1, List.all_eq_true]
  intro x hx
  obtain ⟨j, hj, rfl⟩ := List.getElem_of_mem hx
  exact h2 j hj
theorem coB_bad {a b : List Nat} {n s k : Nat} (h : popN s ≠ 1) (h1 : (coParts a b s).length ≠ 1) (hk : k < (coParts a b s).length) (h2 : coB a b n (coParts a b s)[k] = false) : coB a b (n + 1) s = false := by
  rw [coB, if_neg h, if_neg h1]
  cases hc : (coParts a b s).all (coB a b n)
  · rfl
  · have := List.all_eq_true.1 hc _ (List.getElem_mem hk)
    rw [h2] at this; cases this
noncomputable def cographB (g : List (List Int)) : Bool := gokB g && coB (netsL g) (complN (netsL g)) g.length (firstN g.length)
theorem KeptBut.then {w w1 w2 : World} {r r' : Option Nat} (h : KeptBut w w1 r) (k : KeptBut w1 w2 r') (hr : ∀ b, r' = some b → r = some b ∨ w.heap.size ≤ b) : KeptBut w w2 r :=
  ⟨k.1.trans h.1, k.2.1.trans h.2.1, k.2.2.1.trans h.2.2.1, Nat.le_trans h.2.2.2.1 k.2.2.2.1, fun i hi hne => (k.2.2.2.2 i (Nat.lt_of_lt_of_le hi h.2.2.2.1) (fun e => by
    rcases hr i e.symm with h1 | h1
    · exact hne h1.symm
    · omega)).trans (h.2.2.2.2 i hi hne)⟩
theorem KeptBut.ofBelow {w w' : World} (r : Option Nat) (h : Below w.heap.size w w') : KeptBut w w' r := ⟨h.os, h.tape, h.output, h.size, fun k hk _ => h.block k hk⟩
/-- What a search for a tree does: the tree grows, or nothing is said of it. -/
def TreeP (E : TypeId) (ok : Bool) (w : World) (tv : Value) (B m p : Nat) (e : Ending) (w' : World) : Prop :=
  ∃ r, e = .returned (.tuple #[r, .bool ok]) ∧ (ok = true → ∃ m' xs', Own w' B E 3 r m' xs' ∧ m' + 1 ≤ m + 2 * p ∧ ∀ b, r.ownBlock = some b → tv.ownBlock = some b ∨ w.heap.size ≤ b) ∧ KeptBut w w' tv.ownBlock
theorem moved_or {w W : World} {v v' : Value} (h : Moved W v v') (hW : w.heap.size ≤ W.heap.size) : ∀ b, v'.ownBlock = some b → v.ownBlock = some b ∨ w.heap.size ≤ b := fun b hb => by
  rcases h with h | h
  · exact .inl (h ▸ hb)
  · rw [h] at hb; simp at hb; exact .inr (by omega)
