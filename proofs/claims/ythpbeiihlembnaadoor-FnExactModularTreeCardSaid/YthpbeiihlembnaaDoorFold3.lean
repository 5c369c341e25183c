/- Folding by the reference: l20At, l20Fold, l20All, SeriesIn; the law. -/
import Derived.Test.YthpbeiihlembnaaDoorFold2
import Derived.Test.YthpbeiihlembnaaDoorParts3
namespace Go.Proofs.YthpbeiihlembnaaDoor
open Go.RowKit
/-- Slices that lie in old blocks, off the block x and off the array of o. -/
def Off (W : World) (x : Nat) (o : Value) : Nat → Prop := fun b => b < W.heap.size ∧ (b ≠ x ∧ b ≠ x + 1) ∧ o.ownBlock ≠ some b
theorem SlI.low3 {S : Nat → Prop} {w : World} {k : IntKind} {v : Value} {xs : List Int} (h : SlI S w k v xs) : SlI (fun b => S b ∧ b < w.heap.size) w k v xs := by
  obtain ⟨a, b, off, cap, rfl, hl, ha, hc⟩ := h
  exact ⟨a, b, off, cap, rfl, hl, fun h0 => ⟨(ha h0).1, (ha h0).2, cell_lt (hc 0 h0)⟩, hc⟩
theorem SlR.low3 {S : Nat → Prop} {w : World} {v : Value} {g : List (List Int)} (h : SlR S w v g) : SlR (fun b => S b ∧ b < w.heap.size) w v g := by
  obtain ⟨a, b, off, cap, f, rfl, hl, ha, hc⟩ := h
  exact ⟨a, b, off, cap, f, rfl, hl, fun h0 => ⟨(ha h0).1, (ha h0).2, cell_lt (hc 0 h0).1⟩, fun i hi => ⟨(hc i hi).1, (hc i hi).2.low3⟩⟩
/-- From one world to the next: old blocks stand, but x and the array of o. -/
structure OffTo (x : Nat) (o : Value) (W : World) (o' : Value) (W' : World) : Prop where
  size : W.heap.size ≤ W'.heap.size
  keep : ∀ b, b < W.heap.size → (b ≠ x ∧ b ≠ x + 1) → o.ownBlock ≠ some b → W'.heap[b]? = W.heap[b]?
  new : ∀ b, b < W.heap.size → o.ownBlock ≠ some b → o'.ownBlock ≠ some b
theorem OffTo.below {x : Nat} {o : Value} {W W' : World} (h : Below W.heap.size W W') : OffTo x o W o W' := ⟨h.size, fun b hb _ _ => h.block b hb, fun _ _ h => h⟩
theorem OffTo.set {x y j : Nat} {o u : Value} {W : World} (hy : y = x ∨ y = x + 1) : OffTo x o W o (W.setCell ⟨y, j, none⟩ u) := ⟨by simp, fun b _ hne _ => Below.heap_setCell _ _ _ _ (by simp; omega), fun _ _ h => h⟩
theorem OffTo.append {x : Nat} {o o' : Value} {W W' M : World} (hk : KeptBut W W' o.ownBlock) (hm : Moved M o o') (hM : W.heap.size ≤ M.heap.size) : OffTo x o W o' W' :=
  ⟨hk.2.2.2.1, fun b hb _ ho => hk.2.2.2.2 b hb (fun e => ho e.symm), fun b hb ho e => by
    rcases hm with h | h
    · rw [h] at e; exact ho e
    · rw [h] at e; simp at e; omega⟩
theorem SlI.off {x : Nat} {o o' : Value} {W W' : World} {k : IntKind} {v : Value} {xs : List Int} (h : SlI (Off W x o) W k v xs) (ht : OffTo x o W o' W') : SlI (Off W' x o') W' k v xs :=
  (h.keep fun b hb => ht.keep b hb.1 hb.2.1 hb.2.2).weak fun b hb => ⟨Nat.lt_of_lt_of_le hb.1 ht.size, hb.2.1, ht.new b hb.1 hb.2.2⟩
theorem SlR.off {x : Nat} {o o' : Value} {W W' : World} {v : Value} {g : List (List Int)} (h : SlR (Off W x o) W v g) (ht : OffTo x o W o' W') : SlR (Off W' x o') W' v g :=
  (h.keep fun b hb => ht.keep b hb.1 hb.2.1 hb.2.2).weak fun b hb => ⟨Nat.lt_of_lt_of_le hb.1 ht.size, hb.2.1, ht.new b hb.1 hb.2.2⟩
/-- The word of u's row behind a folding. -/
def rowM (a : List Nat) (left v : Nat) (f : Tri) (u : Nat) : Nat :=
  if u = v then 0 else (if left.testBit u = true then a.getD u 0 &&& andN left (bit v) else 0) ||| (if (u : Int) = f.b ∧ 0 ≤ f.c then bit f.c.toNat else 0) ||| (if (u : Int) = f.c then bit f.b.toNat else 0)
theorem bitsI_zero : bitsI 0 = [] := by simp [bitsI, bitsN_zero]
theorem rows_rowM {a : List Nat} {left n v : Nat} {f : Tri} (h : FoldI a left n) (hv : v < n) (hf : foldF a left v = some f) : rowsN (foldN a f) (andN left (bit v)) n = ((List.range n).map (rowM a left v f)).map bitsI := by
  apply List.ext_getElem
  · simp [rowsN]
  · intro u h1 h2
    have hu : u < n := by simpa [rowsN] using h1
    have := row_next h hv hu hf
    rw [List.getD_eq_getElem?_getD, List.getElem?_eq_getElem h1, Option.getD_some] at this
    rw [this]
    simp only [List.getElem_map, List.getElem_range]
    unfold rowM
    by_cases e : u = v
    · rw [if_pos e, if_pos e, bitsI_zero]
    · rw [if_neg e, if_neg e]
def mu0 (a : List Nat) (left u : Nat) : Nat := if left.testBit u = true then a.getD u 0 &&& left else 0
theorem rowsN_mu {a : List Nat} {left n u : Nat} (hu : u < (rowsN a left n).length) : (rowsN a left n)[u] = bitsI (mu0 a left u) := by
  rw [rowsN_get]; unfold mu0; split
  · rfl
  · rw [bitsI_zero]
theorem mu0_lt {a : List Nat} {left n : Nat} (h : FoldI a left n) (u : Nat) : mu0 a left u < 4294967296 := by
  unfold mu0; split
  · exact h.near32 u
  · omega
theorem mu_less {a : List Nat} {left n v u : Nat} (h : FoldI a left n) (hv : v < n) : andN (mu0 a left u) (bit v) = if left.testBit u = true then a.getD u 0 &&& andN left (bit v) else 0 := by
  have h16 := h.le
  unfold mu0; split
  · exact and_andN h.left32 (bit_lt (by omega))
  · apply nat_ext; intro i
    rw [testBit_andN (by omega) (bit_lt (by omega)), Nat.zero_testBit]; rfl
end Go.Proofs.YthpbeiihlembnaaDoor
