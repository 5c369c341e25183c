/- Marks written into a slice of slices and read again, exactly; equal results. -/
import Derived.Test.YtdbanndcdbikmaaGreatDoorLaws
namespace Go.Proofs.YtdbanndcdbikmaaGreatDoor
open Go.RowKit
/-- The marks k, k + 1, .. -/
def marksL (k : Int) (n : Nat) : List Int := (List.range n).map fun i : Nat => k + (i : Int)
/-- The first j are marked, the others are as they were. -/
def marked (k : Int) (xs : List Int) (j : Nat) : List Int := marksL k j ++ xs.drop j
/-- Slices in blocks of their own each. -/
def ApartL (vs : List Value) : Prop := ∀ i j (hi : i < vs.length) (hj : j < vs.length) (b : Nat), vs[i].ownBlock = some b → vs[j].ownBlock = some b → i = j
theorem ApartL.nil : ApartL [] := fun i j hi => by simp at hi
theorem ApartL.snoc {vs : List Value} {u : Value} {N : Nat} (h : ApartL vs) (h1 : ∀ i (hi : i < vs.length) b, vs[i].ownBlock = some b → b < N) (h2 : ∀ b, u.ownBlock = some b → N ≤ b) : ApartL (vs ++ [u]) := by
  intro i j hi hj b hb1 hb2
  rw [List.length_append] at hi hj
  simp only [List.length_singleton] at hi hj
  by_cases ei : i < vs.length <;> by_cases ej : j < vs.length
  · rw [List.getElem_append_left ei] at hb1; rw [List.getElem_append_left ej] at hb2; exact h i j ei ej b hb1 hb2
  · rw [List.getElem_append_left ei] at hb1; rw [List.getElem_append_right (by omega)] at hb2
    have e : j - vs.length = 0 := by omega
    simp only [e, List.getElem_cons_zero] at hb2
    have := h1 i ei b hb1; have := h2 b hb2; omega
  · rw [List.getElem_append_left ej] at hb2; rw [List.getElem_append_right (by omega)] at hb1
    have e : i - vs.length = 0 := by omega
    simp only [e, List.getElem_cons_zero] at hb1
    have := h1 j ej b hb2; have := h2 b hb1; omega
  · omega
/-- u is an own slice of own rows; all blocks lie from B on, below C; the rows lie apart from the outer array. -/
def OwnR (w : World) (B C : Nat) (EO EI : TypeId) (u : Value) (g : List (List Int)) : Prop :=
  ∃ vs : List Value, vs.length = g.length ∧ Own w B EO 1 u g.length vs ∧ (∀ b, u.ownBlock = some b → b < C) ∧ ApartL vs ∧
    ∀ i (h : i < g.length) (h2 : i < vs.length), Own w B EI 1 vs[i] g[i].length (g[i].map (.int .i64)) ∧ (∀ b, vs[i].ownBlock = some b → b < C ∧ u.ownBlock ≠ some b)
theorem OwnR.below {w w' : World} {B C B1 : Nat} {EO EI : TypeId} {u : Value} {g : List (List Int)} (h : OwnR w B C EO EI u g) (hb : Below B1 w w') (hB : w.heap.size ≤ B1) : OwnR w' B C EO EI u g := by
  obtain ⟨vs, h1, h2, h3, hap, h4⟩ := h
  exact ⟨vs, h1, h2.below hb hB, h3, hap, fun i hi hi2 => ⟨(h4 i hi hi2).1.below hb hB, (h4 i hi hi2).2⟩⟩
/-- It reads as rows. -/
theorem OwnR.rows {w : World} {B C : Nat} {EO EI : TypeId} {u : Value} {g : List (List Int)} (h : OwnR w B C EO EI u g) (hs : SmallR g 1048576) : SlR (fun b => B ≤ b ∧ b < C) w u g := by
  obtain ⟨vs, h1, h2, h3, hap, h4⟩ := h
  have hl : g.length ≤ 1048576 := by have := hs.1; omega
  have hr : RowsTo (fun b => B ≤ b ∧ b < C) w vs g := ⟨by omega, fun i hi hi2 => by
    have := (h4 i hi2 hi).1.ints (by have := hs.2 i hi2 hi2; omega)
    exact this.weak (fun b hb => ⟨(h4 i hi2 hi).1.ge b hb, ((h4 i hi2 hi).2 b hb).1⟩)⟩
  exact hr.rows h1 (fun b hb => ⟨h2.ge b hb, h3 b hb⟩) h2 (by omega)
theorem own_none_some {w : World} {B : Nat} {E : TypeId} {size : Nat} {v : Value} {n : Nat} {xs : List Value} (h : Own w B E size v n xs) : (v = .slice none 0 0 ∧ n = 0) ∨ ∃ g c, v = .slice (some ⟨g, 0, none⟩) n c := by
  rcases h.2 with ⟨rfl, rfl⟩ | ⟨g, cap, cur, rfl, _⟩
  · exact .inl ⟨rfl, rfl⟩
  · exact .inr ⟨g, cap, rfl⟩
/-- Only blocks from B on, below C, may have changed. -/
structure Between (B C : Nat) (w w' : World) : Prop where
  os : w'.os = w.os
  tape : w'.tape = w.tape
  output : w'.output = w.output
  size : w.heap.size ≤ w'.heap.size
  block : ∀ b, b < w.heap.size → (b < B ∨ C ≤ b) → w'.heap[b]? = w.heap[b]?
theorem OwnR.isSlice {w : World} {B C : Nat} {EO EI : TypeId} {u : Value} {g : List (List Int)} (h : OwnR w B C EO EI u g) : ∃ a c, u = .slice a g.length c := by
  obtain ⟨vs, h1, h2, _⟩ := h
  exact h2.isSlice
theorem OwnR.weaken {w : World} {B C B1 C1 : Nat} {EO EI : TypeId} {u : Value} {g : List (List Int)} (h : OwnR w B C EO EI u g) (hB : B1 ≤ B) (hC : C ≤ C1) : OwnR w B1 C1 EO EI u g := by
  obtain ⟨vs, h1, h2, h3, hap, h4⟩ := h
  exact ⟨vs, h1, h2.weak hB, fun b hb => Nat.lt_of_lt_of_le (h3 b hb) hC, hap, fun i hi hi2 => ⟨(h4 i hi hi2).1.weak hB, fun b hb => ⟨Nat.lt_of_lt_of_le ((h4 i hi hi2).2 b hb).1 hC, ((h4 i hi hi2).2 b hb).2⟩⟩⟩
def sumL (g : List (List Int)) : Nat := (g.map List.length).sum
def sumTL (g : List (List Int)) (j : Nat) : Nat := sumL (g.take j)
/-- The rows of marks. -/
def marksR (k : Int) (g : List (List Int)) : List (List Int) := (List.range g.length).map fun i => marksL (k + (sumTL g i : Int)) (g.getD i []).length
end Go.Proofs.YtdbanndcdbikmaaGreatDoor
