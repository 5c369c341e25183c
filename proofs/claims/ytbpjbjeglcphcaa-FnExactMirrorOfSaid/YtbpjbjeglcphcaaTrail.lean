/- Trails: distinct vertices, each a neighbour of the next one; the program's walk. -/
import Derived.Test.YtbpjbjeglcphcaaEarM
namespace Go.Proofs.Ytbpjbjeglcphcaa
open Go.RowKit
def tokB (g : List (List Int)) (p : List Int) (i : Nat) : Bool :=
  inB (p.getD i 0) 0 ((g.length : Int) - 1) && !decide (p.getD i 0 ∈ p.take i) && (decide (i = 0) || decide (p.getD (i - 1) 0 ∈ g.getD (p.getD i 0).toNat []))
def trailB (g : List (List Int)) (p : List Int) : Bool := (List.range p.length).all (tokB g p)
def TrailTo (g : List (List Int)) (p : List Int) (k : Nat) : Prop := ∀ i, i < k → tokB g p i = true
theorem trail_false {g : List (List Int)} {p : List Int} {k : Nat} (hk : k < p.length) (h : tokB g p k = false) : trailB g p = false := by
  cases hb : trailB g p with
  | false => rfl
  | true =>
    rw [trailB, List.all_eq_true] at hb
    have := hb k (List.mem_range.2 hk)
    rw [h] at this; cases this
theorem trail_true {g : List (List Int)} {p : List Int} (h : TrailTo g p p.length) : trailB g p = true := by
  rw [trailB, List.all_eq_true]
  exact fun i hi => h i (List.mem_range.1 hi)
theorem TrailTo.next {g : List (List Int)} {p : List Int} {k : Nat} (h : TrailTo g p k) (hk : tokB g p k = true) : TrailTo g p (k + 1) := fun i hi => by
  by_cases e : i = k
  · subst e; exact hk
  · exact h i (by omega)
theorem TrailTo.range {g : List (List Int)} {p : List Int} {k : Nat} (h : TrailTo g p k) : ∀ x ∈ p.take k, 0 ≤ x ∧ x < g.length := fun x hx => by
  obtain ⟨i, hi, rfl⟩ := List.getElem_of_mem hx
  rw [List.length_take] at hi
  have := h i (by omega)
  have hl : i < p.length := by omega
  have e : p.getD i 0 = p[i] := by simp [hl]
  simp only [tokB, e, Bool.and_eq_true, inB_iff] at this
  rw [List.getElem_take]
  exact this.1.1
theorem tok_at {g : List (List Int)} {p : List Int} {k x : Nat} (hk : k < p.length) (hx : p[k] = (x : Int)) (hxg : x < g.length) : tokB g p k = (!decide ((x : Int) ∈ p.take k) && (decide (k = 0) || decide (p.getD (k - 1) 0 ∈ g.getD x []))) := by
  have e : p.getD k 0 = (x : Int) := by simp [hk, hx]
  have hi : inB (x : Int) 0 ((g.length : Int) - 1) = true := inB_iff.2 ⟨by omega, by omega⟩
  rw [tokB, e, hi, Bool.true_and, Int.toNat_natCast]
